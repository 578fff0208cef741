/- KindOf on both sides. -/
import Derived.Test.YtpkpahadjdkafaaPk19
import Derived.Test.YtpkpahadjdkafaaPk22
import Derived.Test.YtpkpahadjdkafaaPk24
import Derived.Test.YtpkpahadjdkafaaPk26
import Derived.Test.YtpkpahadjdkafaaPk27
import Derived.Deep.CutBlock
import Derived.Shelf.Strings.Builder1
import Derived.Shelf.Strings.Builder2
import Derived.Shelf.Strings.OnBuilder
import Derived.Ground.Names2Prog
import Derived.Shelf.Slices.ReverseS
import Derived.Shelf.Slices.Clone
import Derived.Shelf.Slices.Cells
import Derived.Ground.SlgnProg
import Derived.Shelf.SlicesE.Clone
import Derived.Test.YtpkpahadjdkafaaProg
namespace Go.Proofs.Ytpkpahadjdkafaa
open Go Go.RowKit
set_option linter.unusedVariables false
set_option linter.unusedSimpArgs false

def tLong : ByteArray := ⟨#[108, 111, 110, 103]⟩
def tFalse : ByteArray := ⟨#[102, 97, 108, 115, 101]⟩
def tTrue : ByteArray := ⟨#[116, 114, 117, 101]⟩
def tPrin : ByteArray := ⟨#[112, 114, 105, 110, 99, 105, 112, 108, 101]⟩
def tStill : ByteArray := ⟨#[115, 116, 105, 108, 108]⟩
def tHunt : ByteArray := ⟨#[104, 117, 110, 116]⟩
def tOdd : ByteArray := ⟨#[111, 100, 100]⟩
def tEven : ByteArray := ⟨#[101, 118, 101, 110]⟩
def tPlain : ByteArray := ⟨#[112, 108, 97, 105, 110]⟩
def tMirr : ByteArray := ⟨#[109, 105, 114, 114, 111, 114, 101, 100]⟩
def tSp : ByteArray := ⟨#[32]⟩
def kw0 (m : Mt) (n K : Nat) : ByteArray := if K * m.l.length ≤ 800 then (if (crsL m n K).Nodup then tTrue else tFalse) else tLong
def kw1 (m : Mt) (n : Nat) : ByteArray := if 0 < (stillL n (scanB (roundsB n) m.l)).length then tStill else if 0 < (stillL n [runB (roundsB n) m.l]).length then tHunt else tPrin
def kw2 (m : Mt) (n : Nat) : ByteArray := if evenB (runB (roundsB n) m.l) = true then tEven else tOdd
def kw3 (m : Mt) : ByteArray := if palM m = true then tMirr else tPlain
theorem kw0_size (m : Mt) (n K : Nat) : (kw0 m n K).size ≤ 9 := by
  unfold kw0; split
  · split
    · show 4 ≤ 9; omega
    · show 5 ≤ 9; omega
  · show 4 ≤ 9; omega
theorem kw1_size (m : Mt) (n : Nat) : (kw1 m n).size ≤ 9 := by
  unfold kw1; split
  · show 5 ≤ 9; omega
  · split
    · show 4 ≤ 9; omega
    · show 9 ≤ 9; omega
theorem kw2_size (m : Mt) (n : Nat) : (kw2 m n).size ≤ 9 := by
  unfold kw2; split
  · show 4 ≤ 9; omega
  · show 3 ≤ 9; omega
theorem kw3_size (m : Mt) : (kw3 m).size ≤ 9 := by
  unfold kw3; split
  · show 8 ≤ 9; omega
  · show 5 ≤ 9; omega
def kindT (a b c d : ByteArray) : ByteArray := a ++ tSp ++ b ++ tSp ++ c ++ tSp ++ d
set_option maxRecDepth 100000 in
set_option maxHeartbeats 8000000 in
theorem specKindOf_yes (m : Mt) (v : Value) (n K : Nat) (w : World) (hK : MK m n K) (h : MethAt w m v) (hs : MtSmall m) : Calls Try.prog 25 #[m.v v] w fun e w' =>
    e = .returned (.tuple #[.string (kindT (kw0 m n K) (kw1 m n) (kw2 m n) (kw3 m)), .bool true]) ∧ Below w.heap.size w w' := by
  have Hg := Lib.hid (fun W (hW : Below w.heap.size w W) => l4Good_any m v W (h.to hW) hs)
  rw [hK.ok] at Hg
  have Hcr := Lib.hid (fun W (hW : Below w.heap.size w W) => specCourseRows_any m v n K W hK (h.to hW) hs)
  have Htr := Lib.hid (fun V W hV hn => l7True_any V (crsL m n K) W hV hn (Nat.le_trans (crs_len hK) (by omega)))
  have Hst := Lib.hid (fun W (hW : Below w.heap.size w W) => specStillBells_yes m v n W hK.ok hK.g (h.to hW) hs)
  have Hhu := Lib.hid (fun W (hW : Below w.heap.size w W) => l4Hunt_any m v n W hK.g (h.to hW))
  have Hhd := Lib.hid (fun W (hW : Below w.heap.size w W) => l4Head_any m v n W hK.g (h.1.to hW))
  have Hev := Lib.hid (fun W => l1Even_any (runB (roundsB n) m.l) W (by rw [hK.hin.1]; have := hK.g.hi; omega))
  have Hpa := Lib.hid (fun W (hW : Below w.heap.size w W) => l4Palindrome_any m v n W hK.g (h.to hW))
  have Hd0 : Hid (kw0 m n K = if K * m.l.length ≤ 800 then (if (crsL m n K).Nodup then tTrue else tFalse) else tLong) := Lib.hid rfl
  have Hd1 : Hid (kw1 m n = if 0 < (stillL n (scanB (roundsB n) m.l)).length then tStill else if 0 < (stillL n [runB (roundsB n) m.l]).length then tHunt else tPrin) := Lib.hid rfl
  have Hd2 : Hid (kw2 m n = if evenB (runB (roundsB n) m.l) = true then tEven else tOdd) := Lib.hid rfl
  have Hd3 : Hid (kw3 m = if palM m = true then tMirr else tPlain) := Lib.hid rfl
  obtain ⟨C, hC⟩ : ∃ C, C = crsL m n K := ⟨_, rfl⟩
  obtain ⟨S, hS⟩ : ∃ S, S = stillL n (scanB (roundsB n) m.l) := ⟨_, rfl⟩
  obtain ⟨H, hH⟩ : ∃ H, H = runB (roundsB n) m.l := ⟨_, rfl⟩
  simp only [← hH] at Hhu Hhd Hev Hd1 Hd2
  obtain ⟨T, hT⟩ : ∃ T, T = stillL n [H] := ⟨_, rfl⟩
  obtain ⟨E, hE⟩ : ∃ E, E = evenB H := ⟨_, rfl⟩
  obtain ⟨P, hP⟩ : ∃ P, P = palM m := ⟨_, rfl⟩
  obtain ⟨u, hu⟩ : ∃ u, u = decide (K * m.l.length ≤ 800) := ⟨_, rfl⟩
  have hu2 : (K * m.l.length ≤ 800) ↔ u = true := by rw [hu, decide_eq_true_eq]
  have hz0 := kw0_size m n K
  have hz1 := kw1_size m n
  have hz2 := kw2_size m n
  have hz3 := kw3_size m
  obtain ⟨a0, ha0⟩ : ∃ a, a = kw0 m n K := ⟨_, rfl⟩
  obtain ⟨a1, ha1⟩ : ∃ a, a = kw1 m n := ⟨_, rfl⟩
  obtain ⟨a2, ha2⟩ : ∃ a, a = kw2 m n := ⟨_, rfl⟩
  obtain ⟨a3, ha3⟩ : ∃ a, a = kw3 m := ⟨_, rfl⟩
  simp only [← hC, ← hS, ← hT, ← hE, ← hP, ← hu, hu2, ← ha0, ← ha1, ← ha2, ← ha3] at Hcr Htr Hst Hhu Hhd Hev Hpa Hd0 Hd1 Hd2 Hd3 hz0 hz1 hz2 hz3 ⊢
  obtain ⟨A, c, hv⟩ := h.form
  subst hv
  unfold Mt.v at *
  clear h hK hC hS hT hE hP hH hu hu2 ha0 ha1 ha2 ha3
  go_enter Try.func25, Try.ntmps25
  go_wp2_with fail
  refine box1 (C := fun W => Calls _ _ _ W _) ?_
  intro wb hw k1 hB0
  have R1 := boxRule k1
  clear k1
  refine (Hg.out _ hw).mono ?_; rintro e w1 ⟨rfl, hb1⟩
  have hB1 := bw_to hw hb1
  go_wp2_with fail
  refine (Hcr.out _ hB1).mono ?_; rintro e w2 ⟨A2, q2, rfl, hown2, hb2⟩
  have hB2 := bw_to hB1 hb2
  have hb12 := bw_to hb1 hb2
  have hSC : Strs w2 (.slice A2 C.length q2) C := strs_of_own hown2
  have hNC := nilok_own hown2
  clear hown2
  have hb2' := hb12
  go_upto_if 20 with fail
  go_cut [4] (fun s4 wx => s4 = .string a0 ∧ Below wb.heap.size wb wx)
  case first =>
    cases u
    · rw [if_neg (by decide)] at Hd0
      unfold tLong at Hd0
      go_wp2_with fail
      go_meet
      exact ⟨by rw [Hd0.out], hb12⟩
    · rw [if_pos rfl] at Hd0
      go_wp2_with fail
      refine (Htr.out _ _ hSC hNC).mono ?_; rintro e w3 ⟨rfl, hb3⟩
      by_cases hnd : C.Nodup
      · rw [if_pos hnd] at Hd0
        unfold tTrue at Hd0
        rw [decide_eq_true hnd]
        clear hnd
        go_wp2_with fail
        go_meet
        exact ⟨by rw [Hd0.out], bw_to hb12 hb3⟩
      · rw [if_neg hnd] at Hd0
        unfold tFalse at Hd0
        rw [decide_eq_false hnd]
        clear hnd
        go_wp2_with fail
        go_meet
        exact ⟨by rw [Hd0.out], bw_to hb12 hb3⟩
  case rest =>
    obtain ⟨rfl, hBa⟩ := hcut
    have R4 := fun i => R1 _ i hBa
    have hBa' := bw_to hw hBa
    clear hSC hNC Htr Hcr Hg
    go_wp2_with fail
    refine (Hst.out _ hBa').mono ?_; rintro e w4 ⟨A4, q4, rfl, hown4, hb4⟩
    have hB4 := bw_to hBa hb4
    clear hown4 R4
    have R4 := fun i => R1 _ i hB4
    go_upto_block 0 with fail
    go_cut [9] (fun s9 wx => s9 = .string a1 ∧ Below wb.heap.size wb wx)
    case first =>
      by_cases h1 : 0 < S.length
      · rw [if_pos h1] at Hd1
        unfold tStill at Hd1
        have hd : decide ((0 : Int) < (S.length : Int)) = true := decide_eq_true (by omega)
        go_wp2_with fail
        go_meet
        exact ⟨by rw [Hd1.out], hB4⟩
      · rw [if_neg h1] at Hd1
        have hd : decide ((0 : Int) < (S.length : Int)) = false := decide_eq_false (by omega)
        go_wp2_with fail
        refine (Hhu.out _ (bw_to hw hB4)).mono ?_; rintro e w5 ⟨A5, q5, rfl, hb5⟩
        by_cases h2 : 0 < T.length
        · rw [if_pos h2] at Hd1
          unfold tHunt at Hd1
          have hd : decide ((0 : Int) < (T.length : Int)) = true := decide_eq_true (by omega)
          go_wp2_with fail
          go_meet
          exact ⟨by rw [Hd1.out], bw_to hB4 hb5⟩
        · rw [if_neg h2] at Hd1
          unfold tPrin at Hd1
          have hd : decide ((0 : Int) < (T.length : Int)) = false := decide_eq_false (by omega)
          go_wp2_with fail
          go_meet
          exact ⟨by rw [Hd1.out], bw_to hB4 hb5⟩
    case rest =>
      obtain ⟨rfl, hBd⟩ := hcut
      clear R4
      have R4 := fun i => R1 _ i hBd
      go_wp2_with fail
      refine (Hhd.out _ (bw_to hw hBd)).mono ?_; rintro e w6 ⟨rfl, hb6⟩
      have hB6 := bw_to hBd hb6
      go_wp2_with fail
      refine (Hev.out _).mono ?_; rintro e w7 ⟨rfl, hb7⟩
      have hB7 := bw_to hB6 hb7
      go_upto_if 39 with fail
      go_cut [10] (fun s10 wx => s10 = .string a2 ∧ Below wb.heap.size wb wx)
      case first =>
        cases E
        · rw [if_neg (by decide)] at Hd2
          unfold tOdd at Hd2
          go_wp2_with fail
          go_meet
          exact ⟨by rw [Hd2.out], hB7⟩
        · rw [if_pos rfl] at Hd2
          unfold tEven at Hd2
          go_wp2_with fail
          go_meet
          exact ⟨by rw [Hd2.out], hB7⟩
      case rest =>
        obtain ⟨rfl, hBe⟩ := hcut
        clear R4
        have R4 := fun i => R1 _ i hBe
        go_wp2_with fail
        refine (Hpa.out _ (bw_to hw hBe)).mono ?_; rintro e w8 ⟨rfl, hb8⟩
        have hB8 := bw_to hBe hb8
        go_upto_if 41 with fail
        go_cut [11] (fun s11 wx => s11 = .string a3 ∧ Below wb.heap.size wb wx)
        case first =>
          cases P
          · rw [if_neg (by decide)] at Hd3
            unfold tPlain at Hd3
            go_wp2_with fail
            go_meet
            exact ⟨by rw [Hd3.out], hB8⟩
          · rw [if_pos rfl] at Hd3
            unfold tMirr at Hd3
            go_wp2_with fail
            go_meet
            exact ⟨by rw [Hd3.out], hB8⟩
        case rest =>
          obtain ⟨rfl, hBf⟩ := hcut
          clear R4
          have hsp : (⟨#[32]⟩ : ByteArray).size = 1 := rfl
          go_wp2_with fail
          go_ret2
          exact ⟨rfl, bw_to hw hBf⟩
end Go.Proofs.Ytpkpahadjdkafaa

/- Contracts of the library laid at this program (the kit's shelf, its plain mode). -/
namespace Go.Proofs
open Go.Shelf
def Try.lays156_ren : Go.Shelf.Ren := ⟨fun | 156 => 126 | 165 => 148 | 166 => 149 | 169 => 150 | 240 => 163 | 241 => 164 | 276 => 169 | 277 => 170 | n => n, fun | 31 => 22 | 9 => 9 | 3 => 3 | 4 => 4 | 0 => 0 | 20 => 20 | 72 => 147 | 76 => 151 | 70 => 145 | 37 => 61 | 75 => 150 | 127 => 160 | 164 => 166 | 5 => 5 | 80 => 153 | n => n, fun | n => n⟩
theorem Try.lays156 : Go.Proofs.Lays.n156 Try.prog Try.lays156_ren := {
  mixed := by kernel_rfl
  f156 := Try.func126.trans (congrArg some (by kernel_rfl))
  f165 := Try.func148.trans (congrArg some (by kernel_rfl))
  f166 := Try.func149.trans (congrArg some (by kernel_rfl))
  f169 := Try.func150.trans (congrArg some (by kernel_rfl))
  f240 := Try.func163.trans (congrArg some (by kernel_rfl))
  f241 := Try.func164.trans (congrArg some (by kernel_rfl))
  f276 := Try.func169.trans (congrArg some (by kernel_rfl))
  f277 := Try.func170.trans (congrArg some (by kernel_rfl))
  t0 := Try.underlying0
  a0 := Try.isAgg0
  z0 := Try.sizeOf0
  v0 := Try.zeroValue0
  t3 := Try.underlying3
  a3 := Try.isAgg3
  z3 := Try.sizeOf3
  v3 := Try.zeroValue3
  t4 := Try.underlying4
  a4 := Try.isAgg4
  z4 := Try.sizeOf4
  v4 := Try.zeroValue4
  t9 := Try.underlying9
  a9 := Try.isAgg9
  z9 := Try.sizeOf9
  v9 := Try.zeroValue9
  t20 := Try.underlying20
  a20 := Try.isAgg20
  z20 := Try.sizeOf20
  v20 := Try.zeroValue20
  t31 := Try.underlying22
  a31 := Try.isAgg22
  z31 := Try.sizeOf22
  v31 := Try.zeroValue22
  t37 := Try.underlying61
  a37 := Try.isAgg61
  z37 := Try.sizeOf61
  v37 := Try.zeroValue61
  t70 := Try.underlying145
  a70 := Try.isAgg145
  z70 := Try.sizeOf145
  v70 := Try.zeroValue145
  t72 := Try.underlying147
  a72 := Try.isAgg147
  z72 := Try.sizeOf147
  v72 := Try.zeroValue147
  t75 := Try.underlying150
  a75 := Try.isAgg150
  z75 := Try.sizeOf150
  v75 := Try.zeroValue150
  t76 := Try.underlying151
  a76 := Try.isAgg151
  z76 := Try.sizeOf151
  v76 := Try.zeroValue151
  t127 := Try.underlying160
  a127 := Try.isAgg160
  z127 := Try.sizeOf160
  v127 := Try.zeroValue160
  t164 := Try.underlying166
  a164 := Try.isAgg166
  z164 := Try.sizeOf166
  v164 := Try.zeroValue166 }
theorem Try.Builder_Extra_156 : Builder.Extra Try.prog Try.lays156_ren := {
  sizeBuilder := by kernel_rfl
  liesBuilder := by kernel_rfl
  t5 := Try.underlying5
  a5 := Try.isAgg5
  z5 := Try.sizeOf5
  v5 := Try.zeroValue5
  infoByte := by kernel_rfl
  cellsByte := by kernel_rfl
  sizeByte := by kernel_rfl
  neB5 := by decide }
open Go.RowKit in
theorem Try.strings_Join_none (a : Option Addr) (c : Nat) (sep : ByteArray) (w : World) :
    Calls Try.prog 126 #[.slice a 0 c, .string sep] w fun e w' => e = .returned (.string ⟨#[]⟩) ∧ w' = w := Any.strings_Join_none Try.lays156 Try.Builder_Extra_156 a c sep w
open Go.RowKit in
theorem Try.strings_Join (bk o c : Nat) (xs : List ByteArray) (sep : ByteArray) (w : World) (hcells : ∀ (j : Nat) x, xs[j]? = some x → w.cell? ⟨bk, o + j, none⟩ = some (.string x)) (hbk : bk < w.heap.size) (hN : xs.length ≤ 140737488355328) (hcap : xs.length ≤ c) (hlen : (Lib.join (xs.map (·.data.toList)) sep.data.toList).length ≤ 140737488355328) :
    Calls Try.prog 126 #[.slice (some ⟨bk, o, none⟩) xs.length c, .string sep] w fun e w' => e = .returned (.string ⟨(Lib.join (xs.map (·.data.toList)) sep.data.toList).toArray⟩) ∧ Below w.heap.size w w' := Any.strings_Join Try.lays156 Try.Builder_Extra_156 bk o c xs sep w hcells hbk hN hcap hlen
end Go.Proofs
