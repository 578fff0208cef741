/- Contracts of the library laid at this program (the kit's shelf, its plain mode). -/
import Derived.Shelf.Strings.Builder1
import Derived.Shelf.Strings.Builder2
import Derived.Shelf.Strings.OnBuilder
import Derived.Shelf.Small.Wraps
import Derived.Shelf.Strings.BuilderF
import Derived.Shelf.Strings.BuilderK
import Derived.Shelf.Utf8.RuneCount
import Derived.Shelf.Strings.Builder2Cap
import Derived.Shelf.Strconv.Itoa0
import Derived.Shelf.Strconv.Itoa1
import Derived.Shelf.LaysM
import Derived.Shelf.Strconv.Itoa2
import Derived.Shelf.Strconv.Itoa3
import Derived.Shelf.Strings.Search1
import Derived.Shelf.Strings.Search2
import Derived.Shelf.Strings.Search3
import Derived.Shelf.Strings.Cut
import Derived.Shelf.Strings.Count
import Derived.Shelf.Strings.Shaped
import Derived.Shelf.Strings.Split
import Derived.Shelf.Strings.SplitShaped
import Derived.Shelf.Unicode.Decode
import Derived.Shelf.Strings.RuneCount
import Derived.Shelf.Strings.Explode
import Derived.Shelf.Unicode.DecodeSlow
import Derived.Shelf.Unicode.DecodeAny
import Derived.Shelf.Slices.Turned
import Derived.Shelf.Slices.Equal
import Derived.Ground.Names2Prog
import Derived.Shelf.Slices.SearchI
import Derived.Shelf.Slices.Empties2
import Derived.Test.YtofpjbdelmmclaaGreatDoorProg
import Derived.Test.YtofpjbdelmmclaaGreatDoorPk2
import Derived.Test.YtofpjbdelmmclaaGreatDoorPk1
import Derived.Lib.SplitLaws
import Derived.Lib.AppendIntMem
import Derived.Lib.ItoaNum
import Derived.Test.YtofpjbdelmmclaaGreatDoorPk12
import Derived.Test.YtofpjbdelmmclaaGreatDoorPk11
import Derived.Sort.OwnSorted
import Derived.Sort.Walk0
namespace Go.Proofs
open Go.Shelf
def Tryz.lays156_ren : Go.Shelf.Ren := ⟨fun | 156 => 91 | 165 => 121 | 166 => 122 | 169 => 123 | 240 => 153 | 241 => 154 | 276 => 187 | 277 => 188 | n => n, fun | 31 => 24 | 9 => 9 | 3 => 3 | 4 => 4 | 0 => 0 | 20 => 20 | 72 => 135 | 76 => 139 | 70 => 133 | 37 => 22 | 75 => 138 | 127 => 157 | 164 => 176 | 5 => 5 | 80 => 117 | n => n, fun | n => n⟩
theorem Tryz.lays156 : Go.Proofs.Lays.n156 Tryz.prog Tryz.lays156_ren := {
  mixed := by kernel_rfl
  f156 := Tryz.func91.trans (congrArg some (by kernel_rfl))
  f165 := Tryz.func121.trans (congrArg some (by kernel_rfl))
  f166 := Tryz.func122.trans (congrArg some (by kernel_rfl))
  f169 := Tryz.func123.trans (congrArg some (by kernel_rfl))
  f240 := Tryz.func153.trans (congrArg some (by kernel_rfl))
  f241 := Tryz.func154.trans (congrArg some (by kernel_rfl))
  f276 := Tryz.func187.trans (congrArg some (by kernel_rfl))
  f277 := Tryz.func188.trans (congrArg some (by kernel_rfl))
  t0 := Tryz.underlying0
  a0 := Tryz.isAgg0
  z0 := Tryz.sizeOf0
  v0 := Tryz.zeroValue0
  t3 := Tryz.underlying3
  a3 := Tryz.isAgg3
  z3 := Tryz.sizeOf3
  v3 := Tryz.zeroValue3
  t4 := Tryz.underlying4
  a4 := Tryz.isAgg4
  z4 := Tryz.sizeOf4
  v4 := Tryz.zeroValue4
  t9 := Tryz.underlying9
  a9 := Tryz.isAgg9
  z9 := Tryz.sizeOf9
  v9 := Tryz.zeroValue9
  t20 := Tryz.underlying20
  a20 := Tryz.isAgg20
  z20 := Tryz.sizeOf20
  v20 := Tryz.zeroValue20
  t31 := Tryz.underlying24
  a31 := Tryz.isAgg24
  z31 := Tryz.sizeOf24
  v31 := Tryz.zeroValue24
  t37 := Tryz.underlying22
  a37 := Tryz.isAgg22
  z37 := Tryz.sizeOf22
  v37 := Tryz.zeroValue22
  t70 := Tryz.underlying133
  a70 := Tryz.isAgg133
  z70 := Tryz.sizeOf133
  v70 := Tryz.zeroValue133
  t72 := Tryz.underlying135
  a72 := Tryz.isAgg135
  z72 := Tryz.sizeOf135
  v72 := Tryz.zeroValue135
  t75 := Tryz.underlying138
  a75 := Tryz.isAgg138
  z75 := Tryz.sizeOf138
  v75 := Tryz.zeroValue138
  t76 := Tryz.underlying139
  a76 := Tryz.isAgg139
  z76 := Tryz.sizeOf139
  v76 := Tryz.zeroValue139
  t127 := Tryz.underlying157
  a127 := Tryz.isAgg157
  z127 := Tryz.sizeOf157
  v127 := Tryz.zeroValue157
  t164 := Tryz.underlying176
  a164 := Tryz.isAgg176
  z164 := Tryz.sizeOf176
  v164 := Tryz.zeroValue176 }
theorem Tryz.Builder_Extra_156 : Builder.Extra Tryz.prog Tryz.lays156_ren := {
  sizeBuilder := by kernel_rfl
  liesBuilder := by kernel_rfl
  t5 := Tryz.underlying5
  a5 := Tryz.isAgg5
  z5 := Tryz.sizeOf5
  v5 := Tryz.zeroValue5
  infoByte := by kernel_rfl
  cellsByte := by kernel_rfl
  sizeByte := by kernel_rfl
  neB5 := by decide }
open Go.RowKit in
theorem Tryz.strings_Join_none (a : Option Addr) (c : Nat) (sep : ByteArray) (w : World) :
    Calls Tryz.prog 91 #[.slice a 0 c, .string sep] w fun e w' => e = .returned (.string ⟨#[]⟩) ∧ w' = w := Any.strings_Join_none Tryz.lays156 Tryz.Builder_Extra_156 a c sep w
open Go.RowKit in
theorem Tryz.strings_Join (bk o c : Nat) (xs : List ByteArray) (sep : ByteArray) (w : World) (hcells : ∀ (j : Nat) x, xs[j]? = some x → w.cell? ⟨bk, o + j, none⟩ = some (.string x)) (hbk : bk < w.heap.size) (hN : xs.length ≤ 140737488355328) (hcap : xs.length ≤ c) (hlen : (Lib.join (xs.map (·.data.toList)) sep.data.toList).length ≤ 140737488355328) :
    Calls Tryz.prog 91 #[.slice (some ⟨bk, o, none⟩) xs.length c, .string sep] w fun e w' => e = .returned (.string ⟨(Lib.join (xs.map (·.data.toList)) sep.data.toList).toArray⟩) ∧ Below w.heap.size w w' := Any.strings_Join Tryz.lays156 Tryz.Builder_Extra_156 bk o c xs sep w hcells hbk hN hcap hlen
def Tryz.laysM171_ren : Go.Shelf.Ren := ⟨fun | 171 => 90 | 243 => 120 | 246 => 152 | 283 => 183 | 284 => 184 | 285 => 185 | 286 => 186 | 129 => 206 | 317 => 205 | 318 => 207 | 319 => 208 | 320 => 209 | 337 => 212 | 338 => 213 | n => n, fun | 3 => 3 | 9 => 9 | 2 => 2 | 4 => 4 | 171 => 171 | 0 => 0 | 53 => 68 | 37 => 22 | 5 => 5 | 173 => 174 | 212 => 197 | 51 => 193 | 20 => 20 | 213 => 198 | 46 => 66 | 232 => 202 | 233 => 203 | n => n, fun | 17 => 3 | 18 => 4 | 19 => 5 | n => n⟩
theorem Tryz.laysM171 : Go.Proofs.LaysM.n171 Tryz.prog Tryz.laysM171_ren := {
  mixed := by kernel_rfl
  f129 := Tryz.func206.trans (congrArg some (by kernel_rfl))
  f171 := Tryz.func90.trans (congrArg some (by kernel_rfl))
  f243 := Tryz.func120.trans (congrArg some (by kernel_rfl))
  f246 := Tryz.func152.trans (congrArg some (by kernel_rfl))
  f283 := Tryz.func183.trans (congrArg some (by kernel_rfl))
  f284 := Tryz.func184.trans (congrArg some (by kernel_rfl))
  f285 := Tryz.func185.trans (congrArg some (by kernel_rfl))
  f286 := Tryz.func186.trans (congrArg some (by kernel_rfl))
  f317 := Tryz.func205.trans (congrArg some (by kernel_rfl))
  f318 := Tryz.func207.trans (congrArg some (by kernel_rfl))
  f319 := Tryz.func208.trans (congrArg some (by kernel_rfl))
  f320 := Tryz.func209.trans (congrArg some (by kernel_rfl))
  f337 := Tryz.func212.trans (congrArg some (by kernel_rfl))
  f338 := Tryz.func213.trans (congrArg some (by kernel_rfl))
  t0 := Tryz.underlying0
  a0 := Tryz.isAgg0
  z0 := Tryz.sizeOf0
  v0 := Tryz.zeroValue0
  t2 := Tryz.underlying2
  a2 := Tryz.isAgg2
  z2 := Tryz.sizeOf2
  v2 := Tryz.zeroValue2
  t3 := Tryz.underlying3
  a3 := Tryz.isAgg3
  z3 := Tryz.sizeOf3
  v3 := Tryz.zeroValue3
  t4 := Tryz.underlying4
  a4 := Tryz.isAgg4
  z4 := Tryz.sizeOf4
  v4 := Tryz.zeroValue4
  t5 := Tryz.underlying5
  a5 := Tryz.isAgg5
  z5 := Tryz.sizeOf5
  v5 := Tryz.zeroValue5
  t9 := Tryz.underlying9
  a9 := Tryz.isAgg9
  z9 := Tryz.sizeOf9
  v9 := Tryz.zeroValue9
  t20 := Tryz.underlying20
  a20 := Tryz.isAgg20
  z20 := Tryz.sizeOf20
  v20 := Tryz.zeroValue20
  t37 := Tryz.underlying22
  a37 := Tryz.isAgg22
  z37 := Tryz.sizeOf22
  v37 := Tryz.zeroValue22
  t46 := Tryz.underlying66
  a46 := Tryz.isAgg66
  z46 := Tryz.sizeOf66
  v46 := Tryz.zeroValue66
  t51 := Tryz.underlying193
  a51 := Tryz.isAgg193
  z51 := Tryz.sizeOf193
  v51 := Tryz.zeroValue193
  t53 := Tryz.underlying68
  a53 := Tryz.isAgg68
  z53 := Tryz.sizeOf68
  v53 := Tryz.zeroValue68
  t171 := Tryz.underlying171
  a171 := Tryz.isAgg171
  z171 := Tryz.sizeOf171
  v171 := Tryz.zeroValue171
  t173 := Tryz.underlying174
  a173 := Tryz.isAgg174
  z173 := Tryz.sizeOf174
  v173 := Tryz.zeroValue174
  t212 := Tryz.underlying197
  a212 := Tryz.isAgg197
  z212 := Tryz.sizeOf197
  v212 := Tryz.zeroValue197
  t213 := Tryz.underlying198
  a213 := Tryz.isAgg198
  z213 := Tryz.sizeOf198
  t232 := Tryz.underlying202
  a232 := Tryz.isAgg202
  z232 := Tryz.sizeOf202
  v232 := Tryz.zeroValue202
  t233 := Tryz.underlying203
  a233 := Tryz.isAgg203
  z233 := Tryz.sizeOf203
  v233 := Tryz.zeroValue203
  g17 := by kernel_rfl
  g18 := by kernel_rfl
  g19 := by kernel_rfl
  i0 := by kernel_rfl
  i2 := by kernel_rfl
  i3 := by kernel_rfl
  i4 := by kernel_rfl
  i5 := by kernel_rfl
  i9 := by kernel_rfl
  i20 := by kernel_rfl
  i37 := by kernel_rfl
  i46 := by kernel_rfl
  i51 := by kernel_rfl
  i53 := by kernel_rfl
  i171 := by kernel_rfl
  i173 := by kernel_rfl
  i212 := by kernel_rfl
  i232 := by kernel_rfl
  i233 := by kernel_rfl
  m17 := by kernel_rfl
  m18 := by kernel_rfl
  m19 := by kernel_rfl }
open Go.RowKit Go.Sort Go.Lib in
theorem Tryz.strconv_Itoa (n : Int) (h0 : -9223372036854775808 ≤ n) (h1 : n ≤ 9223372036854775807) (w : World) (htab : Lib.TabIs Tryz.prog w "internal/strconv.uint64pow10" .u64 Lib.pow10Tab) :
    Calls Tryz.prog 90 #[.int .i64 n] w fun e w' => e = .returned (.string ⟨(Lib.itoa n).toArray⟩) ∧ ∃ k os, w' = grow (w.drewN k) os := Any.strconv_Itoa Tryz.laysM171 n h0 h1 w htab
def Tryz.lays145_ren : Go.Shelf.Ren := ⟨fun | 145 => 82 | 220 => 116 | 219 => 150 | 217 => 179 | 225 => 180 | 224 => 181 | 267 => 182 | 266 => 203 | 314 => 204 | n => n, fun | 9 => 9 | 4 => 4 | 59 => 106 | 3 => 3 | 5 => 5 | 46 => 66 | 146 => 194 | 51 => 193 | n => n, fun | 1 => 0 | n => n⟩
theorem Tryz.lays145 : Go.Proofs.Lays.n145 Tryz.prog Tryz.lays145_ren := {
  mixed := by kernel_rfl
  f145 := Tryz.func82.trans (congrArg some (by kernel_rfl))
  f217 := Tryz.func179.trans (congrArg some (by kernel_rfl))
  f219 := Tryz.func150.trans (congrArg some (by kernel_rfl))
  f220 := Tryz.func116.trans (congrArg some (by kernel_rfl))
  f224 := Tryz.func181.trans (congrArg some (by kernel_rfl))
  f225 := Tryz.func180.trans (congrArg some (by kernel_rfl))
  f266 := Tryz.func203.trans (congrArg some (by kernel_rfl))
  f267 := Tryz.func182.trans (congrArg some (by kernel_rfl))
  f314 := Tryz.func204.trans (congrArg some (by kernel_rfl))
  t3 := Tryz.underlying3
  a3 := Tryz.isAgg3
  z3 := Tryz.sizeOf3
  v3 := Tryz.zeroValue3
  t4 := Tryz.underlying4
  a4 := Tryz.isAgg4
  z4 := Tryz.sizeOf4
  v4 := Tryz.zeroValue4
  t5 := Tryz.underlying5
  a5 := Tryz.isAgg5
  z5 := Tryz.sizeOf5
  v5 := Tryz.zeroValue5
  t9 := Tryz.underlying9
  a9 := Tryz.isAgg9
  z9 := Tryz.sizeOf9
  v9 := Tryz.zeroValue9
  t46 := Tryz.underlying66
  a46 := Tryz.isAgg66
  z46 := Tryz.sizeOf66
  v46 := Tryz.zeroValue66
  t51 := Tryz.underlying193
  a51 := Tryz.isAgg193
  z51 := Tryz.sizeOf193
  v51 := Tryz.zeroValue193
  t59 := Tryz.underlying106
  a59 := Tryz.isAgg106
  z59 := Tryz.sizeOf106
  v59 := Tryz.zeroValue106
  t146 := Tryz.underlying194
  a146 := Tryz.isAgg194
  z146 := Tryz.sizeOf194
  v146 := Tryz.zeroValue194
  g1 := by kernel_rfl }
open Go.RowKit Go.Lib in
theorem Tryz.strings_Cut (s sep : ByteArray) (m : Int) (w : World) (hs : s.size < 4294967281) (hm : w.cell? ⟨0, 0, none⟩ = some (.int .i64 m)) :
    Calls Tryz.prog 82 #[.string s, .string sep] w fun e w' => e = .returned (.tuple #[.string ⟨(Lib.cut s.data.toList sep.data.toList).1.toArray⟩, .string ⟨(Lib.cut s.data.toList sep.data.toList).2.1.toArray⟩, .bool (Lib.cut s.data.toList sep.data.toList).2.2]) ∧ ∃ n, w' = w.drewN n := Any.strings_Cut Tryz.lays145 s sep m w hs hm
def Tryz.lays146_ren : Go.Shelf.Ren := ⟨fun | 146 => 43 | 221 => 81 | 268 => 113 | 138 => 114 | 143 => 115 | 195 => 147 | 197 => 148 | 218 => 149 | 219 => 150 | 260 => 178 | 217 => 179 | 225 => 180 | 224 => 181 | 267 => 182 | 266 => 203 | 314 => 204 | n => n, fun | 9 => 9 | 31 => 24 | 3 => 3 | 4 => 4 | 0 => 0 | 105 => 153 | 21 => 21 | 5 => 5 | 46 => 66 | 119 => 189 | 139 => 192 | 138 => 191 | 146 => 194 | 51 => 193 | n => n, fun | 1 => 0 | 3 => 1 | 4 => 2 | n => n⟩
theorem Tryz.lays146 : Go.Proofs.Lays.n146 Tryz.prog Tryz.lays146_ren := {
  mixed := by kernel_rfl
  f138 := Tryz.func114.trans (congrArg some (by kernel_rfl))
  f143 := Tryz.func115.trans (congrArg some (by kernel_rfl))
  f146 := Tryz.func43.trans (congrArg some (by kernel_rfl))
  f195 := Tryz.func147.trans (congrArg some (by kernel_rfl))
  f197 := Tryz.func148.trans (congrArg some (by kernel_rfl))
  f217 := Tryz.func179.trans (congrArg some (by kernel_rfl))
  f218 := Tryz.func149.trans (congrArg some (by kernel_rfl))
  f219 := Tryz.func150.trans (congrArg some (by kernel_rfl))
  f221 := Tryz.func81.trans (congrArg some (by kernel_rfl))
  f224 := Tryz.func181.trans (congrArg some (by kernel_rfl))
  f225 := Tryz.func180.trans (congrArg some (by kernel_rfl))
  f260 := Tryz.func178.trans (congrArg some (by kernel_rfl))
  f266 := Tryz.func203.trans (congrArg some (by kernel_rfl))
  f267 := Tryz.func182.trans (congrArg some (by kernel_rfl))
  f268 := Tryz.func113.trans (congrArg some (by kernel_rfl))
  f314 := Tryz.func204.trans (congrArg some (by kernel_rfl))
  t0 := Tryz.underlying0
  a0 := Tryz.isAgg0
  z0 := Tryz.sizeOf0
  v0 := Tryz.zeroValue0
  t3 := Tryz.underlying3
  a3 := Tryz.isAgg3
  z3 := Tryz.sizeOf3
  v3 := Tryz.zeroValue3
  t4 := Tryz.underlying4
  a4 := Tryz.isAgg4
  z4 := Tryz.sizeOf4
  v4 := Tryz.zeroValue4
  t5 := Tryz.underlying5
  a5 := Tryz.isAgg5
  z5 := Tryz.sizeOf5
  v5 := Tryz.zeroValue5
  t9 := Tryz.underlying9
  a9 := Tryz.isAgg9
  z9 := Tryz.sizeOf9
  v9 := Tryz.zeroValue9
  t21 := Tryz.underlying21
  a21 := Tryz.isAgg21
  z21 := Tryz.sizeOf21
  v21 := Tryz.zeroValue21
  t31 := Tryz.underlying24
  a31 := Tryz.isAgg24
  z31 := Tryz.sizeOf24
  v31 := Tryz.zeroValue24
  t46 := Tryz.underlying66
  a46 := Tryz.isAgg66
  z46 := Tryz.sizeOf66
  v46 := Tryz.zeroValue66
  t51 := Tryz.underlying193
  a51 := Tryz.isAgg193
  z51 := Tryz.sizeOf193
  v51 := Tryz.zeroValue193
  t105 := Tryz.underlying153
  a105 := Tryz.isAgg153
  z105 := Tryz.sizeOf153
  v105 := Tryz.zeroValue153
  t119 := Tryz.underlying189
  a119 := Tryz.isAgg189
  z119 := Tryz.sizeOf189
  t138 := Tryz.underlying191
  a138 := Tryz.isAgg191
  z138 := Tryz.sizeOf191
  v138 := Tryz.zeroValue191
  t139 := Tryz.underlying192
  a139 := Tryz.isAgg192
  z139 := Tryz.sizeOf192
  v139 := Tryz.zeroValue192
  t146 := Tryz.underlying194
  a146 := Tryz.isAgg194
  z146 := Tryz.sizeOf194
  v146 := Tryz.zeroValue194
  g1 := by kernel_rfl
  g3 := by kernel_rfl
  g4 := by kernel_rfl }
open Go.RowKit Go.Lib in
theorem Tryz.strings_Split (s sep : ByteArray) (m : Int) (w : World) (hs : s.size < 4294967281) (hm : w.cell? ⟨0, 0, none⟩ = some (.int .i64 m)) (h1 : 1 ≤ sep.size) :
    Calls Tryz.prog 43 #[.string s, .string sep] w fun e w' =>
      e = .returned (.slice (some ⟨w.heap.size, 0, none⟩) (Lib.countB s sep + 1) (Lib.countB s sep + 1)) ∧ w' = w.alloc (.cells ((Lib.splitB sep 0 (Lib.countB s sep) s).map Value.string).toArray 9) := Any.strings_Split Tryz.lays146 (by kernel_rfl) s sep m w hs hm h1
end Go.Proofs

/- Contracts: a text cut at a byte, both sides. -/
namespace Go.Proofs.YtofpjbdelmmclaaGreatDoor
open Go Go.RowKit
set_option linter.unusedVariables false
set_option linter.unusedSimpArgs false

def glue (p : List UInt8) : List (List UInt8) → List (List UInt8)
  | [] => [p]
  | q :: r => (p ++ q) :: r
def splitL (c : UInt8) : List UInt8 → List (List UInt8)
  | [] => [[]]
  | b :: l => if b = c then [] :: splitL c l else glue [b] (splitL c l)
theorem splitL_ne (c : UInt8) : ∀ l, splitL c l ≠ []
  | [] => by simp [splitL]
  | b :: l => by
    unfold splitL
    split
    · simp
    · cases splitL c l <;> simp [glue]
theorem glue_glue (p q : List UInt8) (X : List (List UInt8)) : glue p (glue q X) = glue (p ++ q) X := by
  cases X <;> simp [glue]
theorem glue_nil {X : List (List UInt8)} (h : X ≠ []) : glue [] X = X := by
  cases X with
  | nil => exact absurd rfl h
  | cons q r => simp [glue]
theorem splitK_L (c : UInt8) : ∀ (l : List UInt8) (n : Nat), Lib.count l [c] = n → Lib.splitK [c] 0 n l = splitL c l
  | [], n, h => by
    rw [Lib.count_one] at h
    simp at h
    subst h
    rfl
  | b :: l, n, h => by
    by_cases hb : b = c
    · subst hb
      rw [Lib.count_cons_eq] at h
      obtain ⟨m, rfl⟩ : ∃ m, n = m + 1 := ⟨n - 1, by omega⟩
      have hix : Lib.index (b :: l) [b] = ((0 : Nat) : Int) := by rw [Lib.index]; simp [List.isPrefixOf]
      rw [Lib.splitK, hix, if_neg (by decide), splitL, if_pos rfl]
      have ih := splitK_L b l m (by omega)
      simpa using ih
    · rw [Lib.count_cons_ne b c l hb] at h
      have ih := splitK_L c l n h
      rw [splitL, if_neg hb, ← ih]
      cases n with
      | zero => rfl
      | succ k =>
        have hp : ([c] : List UInt8).isPrefixOf (b :: l) = false := by simp [List.isPrefixOf, Ne.symm hb]
        have hix : Lib.index (b :: l) [c] = if Lib.index l [c] == -1 then -1 else Lib.index l [c] + 1 := by rw [Lib.index, hp]; simp
        have hge := Lib.index_ge l [c]
        by_cases hm : Lib.index l [c] = -1
        · exfalso
          rw [Lib.count_miss hm] at h
          omega
        · obtain ⟨j, hj⟩ : ∃ j : Nat, Lib.index l [c] = j := ⟨(Lib.index l [c]).toNat, by omega⟩
          have hix' : Lib.index (b :: l) [c] = ((j + 1 : Nat) : Int) := by rw [hix, if_neg (fun e => hm (beq_iff_eq.1 e)), hj]; omega
          rw [Lib.splitK, Lib.splitK, hix', hj, if_neg (by first | (simp; done) | (simp; omega)), if_neg (by first | (simp; done) | (simp; omega))]
          simp only [glue, Int.toNat_natCast]
          simp
def splitW (c : UInt8) (s : ByteArray) : List ByteArray := (splitL c s.data.toList).map fun l => ⟨l.toArray⟩
theorem ba_eta (s : ByteArray) : (⟨s.data.toList.toArray⟩ : ByteArray) = s := by apply ByteArray.ext; simp
theorem splitW_of {c : UInt8} {s : ByteArray} {ws : List ByteArray} (h : ws.map (·.data.toList) = splitL c s.data.toList) : splitW c s = ws := by
  unfold splitW
  rw [← h, List.map_map]
  conv => rhs; rw [← List.map_id ws]
  apply List.map_congr_left
  intro x _
  exact ba_eta x
theorem splitB_W (c : UInt8) (s : ByteArray) : Lib.splitB ⟨#[c]⟩ 0 (Lib.countB s ⟨#[c]⟩) s = splitW c s := by
  symm
  apply splitW_of
  rw [Lib.splitB_data]
  exact splitK_L c s.data.toList _ rfl
theorem splitW_len (c : UInt8) (s : ByteArray) : (splitW c s).length = Lib.countB s ⟨#[c]⟩ + 1 := by
  rw [← splitB_W]
  exact Lib.splitB_all _ (by show 1 ≤ 1; omega) 0 _ s rfl
/-- One step of the cutting. -/
theorem cut_hit {c : UInt8} {l : List UInt8} {k : Nat} {p : List UInt8} {X Y : List (List UInt8)} (hk : k < l.length) (h : Y = X ++ glue p (splitL c (l.drop k))) (hc : l[k] = c) : Y = (X ++ [p]) ++ glue [] (splitL c (l.drop (k + 1))) := by
  rw [h, List.drop_eq_getElem_cons hk, splitL, if_pos hc, glue_nil (splitL_ne _ _)]
  simp [glue]
theorem cut_miss {c : UInt8} {l : List UInt8} {k : Nat} {p : List UInt8} {X Y : List (List UInt8)} (hk : k < l.length) (h : Y = X ++ glue p (splitL c (l.drop k))) (hc : l[k] ≠ c) : Y = X ++ glue (p ++ [l[k]]) (splitL c (l.drop (k + 1))) := by
  rw [h, List.drop_eq_getElem_cons hk, splitL, if_neg hc, glue_glue]
theorem cut_end {c : UInt8} {l : List UInt8} {k : Nat} {p : List UInt8} {X Y : List (List UInt8)} (hk : l.length ≤ k) (h : Y = X ++ glue p (splitL c (l.drop k))) : Y = X ++ [p] := by
  rw [h, List.drop_of_length_le hk]; simp [splitL, glue]
theorem ext_snoc {s : ByteArray} {f k : Nat} (hk : k < s.size) (hf : f ≤ k) : (s.extract f (k + 1)).data.toList = (s.extract f k).data.toList ++ [s[k]] := by
  rw [ByteArray.data_extract, ByteArray.data_extract, Array.toList_extract, Array.toList_extract, List.extract_eq_take_drop, List.extract_eq_take_drop, show k + 1 - f = (k - f) + 1 by omega]
  rw [List.take_succ_eq_append_getElem (by simp; omega), List.getElem_drop]
  congr 2
  show s.data.toList[f + (k - f)]'_ = _
  have e : f + (k - f) = k := by omega
  simp only [e]
  rfl
theorem ext_self (s : ByteArray) (k : Nat) : (s.extract k k).data.toList = [] := by
  rw [ByteArray.data_extract, Array.toList_extract, List.extract_eq_take_drop, Nat.sub_self]; rfl
theorem u8_of {a b : UInt8} (h : ((a.toNat : Int) == (b.toNat : Int)) = true) : a = b := by
  have : (a.toNat : Int) = (b.toNat : Int) := by simpa using h
  exact UInt8.toNat_inj.1 (by omega)
theorem info_strY : (Tryz.prog.info? 9).map (fun i => (i.zero, i.size, i.bytes)) = some (some (.string ⟨#[]⟩), 1, 16) := by kernel_rfl
set_option maxRecDepth 10000 in
set_option maxHeartbeats 2000000 in
theorem l1Split_any (s : ByteArray) (c : UInt8) (w : World) (hs : s.size ≤ 10000000) : Calls Tryz.prog 47 #[.string s, .int .u8 c.toNat] w fun e w' =>
    ∃ v, e = .returned v ∧ w'.ownsRow w.heap.size 9 1 v (splitW c s).length ((splitW c s).map Value.string) ∧ Below w.heap.size w w' := by
  obtain ⟨Y, hY⟩ : ∃ Y, Y = splitL c s.data.toList := ⟨_, rfl⟩
  have HY := Lib.hid hY
  clear hY
  go_enter Tryz.func47, Tryz.ntmps47
  go_wp2_with fail
  go_loopw [5, 6, 7] (fun o f i wr => ∃ k g : Nat, ∃ ws : List ByteArray, k ≤ s.size ∧ g ≤ k ∧ i = .int .i64 k ∧ f = .int .i64 g ∧ ws.length ≤ k ∧ Hid (wr.ownsRow w.heap.size 9 1 o ws.length (ws.map Value.string) ∧ Below w.heap.size w wr ∧ Y = ws.map (·.data.toList) ++ glue (s.extract g k).data.toList (splitL c (s.data.toList.drop k)))) (fun _ _ i _ => s.size - (intOf i).toNat)
  case atStart => exact ⟨0, 0, [], by omega, by omega, rfl, rfl, by simp, Lib.hid ⟨World.ownsRow_nil _ _ _ _, Below.refl _ _, by rw [HY.out, ext_self, glue_nil (splitL_ne _ _)]; simp⟩⟩
  case round =>
    obtain ⟨k, g, ws, hk, hg, rfl, rfl, hwl, Hr⟩ := hrel
    by_cases hlt : k < s.size
    · cases hb : ((s[k].toNat : Int) == (c.toNat : Int))
      · have Hn := Lib.hid (cut_miss (by simpa using hlt) Hr.out.2.2 (by rw [bytes_get _ _ hlt]; intro e; rw [e] at hb; simp at hb))
        have He := Lib.hid (ext_snoc hlt hg)
        go_wp2_with fail
        exact ⟨⟨k + 1, g, ws, by omega, by omega, by go_num, rfl, by omega, Lib.hid ⟨Hr.out.1, Hr.out.2.1, by rw [He.out]; exact Hn.out⟩⟩, by simp [intOf]; omega⟩
      · have hce : s[k] = c := u8_of hb
        have Hn := Lib.hid (cut_hit (by simpa using hlt) Hr.out.2.2 (by rw [bytes_get _ _ hlt]; exact hce))
        have hk0 : (0 : Int) ≤ (g : Int) := by omega
        have hk1 : (g : Int) ≤ (k : Int) := by omega
        have hk2 : (k : Int) ≤ (s.size : Int) := by omega
        clear hce
        go_wp2_with (at_builtin; go_must (refine wpList_app wr rfl _ _ _ rfl w.heap.size 9 _ 1 16 Tryz.underlying24 info_strY rfl (by omega) Hr.out.1 [.string (s.extract g k)] rfl rfl rfl (one_mem rfl) (by omega) (by omega) Hr.out.2.1.size ?_); intro v4 w4 hown4 hb4 _ _)
        have hown5 : w4.ownsRow w.heap.size 9 1 v4 (ws ++ [s.extract g k]).length ((ws ++ [s.extract g k]).map Value.string) := by
          rw [List.map_append, List.length_append]; exact hown4
        exact ⟨⟨k + 1, k + 1, ws ++ [s.extract g k], by omega, by omega, by go_num, by go_num, by simp; omega, Lib.hid ⟨hown5, bw_tr Hr.out.2.1 hb4 (Nat.le_refl _), by rw [ext_self, List.map_append]; exact Hn.out⟩⟩, by simp [intOf]; omega⟩
    · obtain rfl : k = s.size := by omega
      have Hn := Lib.hid (cut_end (by simp) Hr.out.2.2)
      have hk0 : (0 : Int) ≤ (g : Int) := by omega
      have hk1 : (g : Int) ≤ (s.size : Int) := by omega
      go_wp2_with (at_builtin; go_must (refine wpList_app wr rfl _ _ _ rfl w.heap.size 9 _ 1 16 Tryz.underlying24 info_strY rfl (by omega) Hr.out.1 [.string (s.extract g s.size)] rfl rfl rfl (one_mem rfl) (by omega) (by omega) Hr.out.2.1.size ?_); intro v4 w4 hown4 hb4 _ _)
      have e : splitW c s = ws ++ [s.extract g s.size] := splitW_of (by rw [List.map_append, ← HY.out]; exact Hn.out.symm)
      go_ret
      refine ⟨_, rfl, ?_, bw_tr Hr.out.2.1 hb4 (Nat.le_refl _)⟩
      rw [e, List.map_append, List.length_append]
      exact hown4
end Go.Proofs.YtofpjbdelmmclaaGreatDoor

/- Contracts: a number as text, both sides. -/
namespace Go.Proofs.YtofpjbdelmmclaaGreatDoor
open Go Go.RowKit
set_option linter.unusedVariables false
set_option linter.unusedSimpArgs false

/-- The library's table of powers of ten lies in w, and stays. -/
def Tab10 (w : World) : Prop := ∀ w', Below w.heap.size w w' → Lib.TabIs Tryz.prog w' "internal/strconv.uint64pow10" .u64 Lib.pow10Tab
theorem Tab10.to {w w' : World} (h : Tab10 w) (hb : Below w.heap.size w w') : Tab10 w' := fun w2 h2 => h w2 (bw_to hb h2)
def numT (n : Int) : ByteArray := ⟨(Lib.itoa n).toArray⟩
theorem dec_len : ∀ (k u : Nat), u < 10 ^ (k + 1) → (Lib.decDigits u).length ≤ k + 1
  | 0, u, h => by rw [Lib.decDigits, dif_pos (by simpa using h)]; simp
  | k + 1, u, h => by
    by_cases hs : u < 10
    · rw [Lib.decDigits, dif_pos hs]; simp
    · rw [Lib.decDigits, dif_neg hs, List.length_append]
      have := dec_len k (u / 10) (Nat.div_lt_of_lt_mul (by rw [Nat.pow_succ] at h; omega))
      simp; omega
theorem numT_size {n : Int} (h0 : -1000000000000 ≤ n) (h1 : n ≤ 1000000000000) : (numT n).size ≤ 14 := by
  show (Lib.itoa n).toArray.size ≤ 14
  rw [List.size_toArray]
  unfold Lib.itoa
  split
  · have := dec_len 12 n.natAbs (by omega)
    simp; omega
  · have := dec_len 12 n.toNat (by omega)
    omega
theorem numT_nat (n : Nat) : numT n = ⟨(Lib.decDigits n).toArray⟩ := by unfold numT Lib.itoa; rw [if_neg (by omega)]; rfl
theorem numT_small {n : Nat} (h : n < 10) : numT n = digit n := by
  rw [numT_nat, Lib.decDigits, dif_pos h]
  unfold digit
  rw [Nat.mod_eq_of_lt h]
theorem numT_big {n : Nat} (h : ¬ n < 10) : numT n = numT ((n / 10 : Nat) : Int) ++ digit n := by
  rw [numT_nat, numT_nat, Lib.decDigits, dif_neg h]
  unfold digit
  apply ByteArray.ext
  simp
theorem below_grow {w : World} (os : Array Obj) (k : Nat) : Below w.heap.size w (Go.Sort.grow (w.drewN k) os) := by
  have h := bw_dr (Below.refl w.heap.size w) k
  refine ⟨h.os, h.tape, h.output, ?_, fun i hi => ?_⟩
  · show w.heap.size ≤ (w.heap ++ os).size
    simp
  · show (w.heap ++ os)[i]? = _
    rw [Array.getElem?_append_left hi]
set_option maxHeartbeats 1000000 in
theorem decimal_any (n : Int) (w : World) (h0 : -1000000000000 ≤ n) (h1 : n ≤ 1000000000000) (ht : Tab10 w) : Calls Tryz.prog 61 #[.int .i64 n] w fun e w' => e = .returned (.string (numT n)) ∧ Below w.heap.size w w' := by
  have Ht := Lib.hid (ht w (Below.refl _ _))
  clear ht
  go_enter Tryz.func61, Tryz.ntmps61
  go_wp2_with fail
  refine (Tryz.strconv_Itoa n (by omega) (by omega) w Ht.out).mono ?_; rintro e w' ⟨rfl, k, os, rfl⟩
  go_wp2_with fail
  go_ret
  exact ⟨rfl, below_grow _ _⟩
theorem one_byte_small {P : Program} {src dst e : TypeId} (hs : P.underlying src = some (.slice e)) (he : P.underlying e = some (.int .u8)) (hd : P.underlying dst = some .string) (W : World) (n : Nat) (hn : n < 10) :
    (convert src dst (.slice (some ⟨W.heap.size, 0, none⟩) 1 1)).run P (W.alloc (.cells #[.int .u8 (48 + (n : Int))] e)) = .ok (.string (digit n)) (W.alloc (.cells #[.int .u8 (48 + (n : Int))] e)) := by
  have h := one_byte hs he hd W n
  rw [show (n : Int) % 10 = n from by omega] at h
  exact h
theorem one_byte_at {P : Program} {src dst e : TypeId} (hs : P.underlying src = some (.slice e)) (he : P.underlying e = some (.int .u8)) (hd : P.underlying dst = some .string) (n : Nat) (W : World) (g : Nat) (hc : W.cell? ⟨g, 0, none⟩ = some (.int .u8 (48 + (n : Int) % 10))) :
    (convert src dst (.slice (some ⟨g, 0, none⟩) 1 1)).run P W = .ok (.string (digit n)) W := by
  refine run_convert_bytes_back _ src dst e ⟨g, 0, none⟩ 1 [UInt8.ofNat (48 + n % 10)] hs he hd (fun j hj => ?_)
  have : j = 0 := by simpa using hj
  subst this
  rw [Addr.add_lit, hc]
  simp
  omega
theorem cell_aft {X w' : World} {B g : Nat} {cs : Array Value} {e : TypeId} {v : Value} (hb : Below B X w') (hB : g < B) (hX : X.heap[g]? = some (.cells cs e (0, 0))) (hv : cs[0]? = some v) : w'.cell? ⟨g, 0, none⟩ = some v :=
  (hb.cell (p := ⟨g, 0, none⟩) hB).trans ((heap_cell hX 0).trans hv)
set_option maxRecDepth 10000 in
set_option maxHeartbeats 1000000 in
theorem l1Num_any (n : Nat) : ∀ (w : World), n ≤ 1000000000000 → Calls Tryz.prog 63 #[.int .i64 n] w fun e w' => e = .returned (.string (numT n)) ∧ Below w.heap.size w w' := by
  induction n using Nat.strongRecOn with
  | _ n ih =>
    intro w hn
    by_cases hlt : n < 10
    · have hcv := fun W => one_byte_small (n := n) Tryz.underlying22 Tryz.underlying5 Tryz.underlying9 W hlt
      go_enter Tryz.func63, Tryz.ntmps63
      go_wp2_with fail
      go_ret
      exact ⟨by rw [numT_small hlt]; rfl, bw_al (Below.refl _ _) _⟩
    · have hcv := one_byte_at (n := n) Tryz.underlying22 Tryz.underlying5 Tryz.underlying9
      go_enter Tryz.func63, Tryz.ntmps63
      go_wp2_with fail
      have hst := Below.refl w.heap.size w
      have hq : ((n / 10 : Nat) : Int) = (n : Int) / 10 := by omega
      have ih' := fun W => ih (n / 10) (by omega) W (by omega)
      have hsz : (numT ((n / 10 : Nat) : Int)).size ≤ 14 := numT_size (by omega) (by omega)
      rw [hq] at hsz
      simp only [hq] at ih'
      have Ih := Lib.hid ih'
      have Hq := Lib.hid hq
      have hds : (digit n).size = 1 := rfl
      have hov : ¬ 9223372036854775807 < (numT ((n : Int) / 10)).size + 1 := by omega
      have hov2 : (numT ((n : Int) / 10)).size + 1 ≤ 9223372036854775807 := by omega
      have hw3 : ((n : Int)).tmod 10 = (n : Int) % 10 := Int.tmod_eq_emod_of_nonneg (by omega)
      have hw4 : IntKind.u8.wrap (48 + (n : Int) % 10) = 48 + (n : Int) % 10 := by unfold IntKind.wrap; simp [IntKind.signed, IntKind.bits]; omega
      have hw2 : IntKind.i64.wrap ((n : Int) / 10) = (n : Int) / 10 := IntWalk.i64_in _ (by omega)
      have hw1 : IntKind.i64.wrap (48 + (n : Int) % 10) = 48 + (n : Int) % 10 := IntWalk.i64_in _ (by omega)
      clear ih ih' hq
      have Hn := Lib.hid hn
      clear hn
      have HB := Lib.hid hst
      clear hst
      go_region_with (go_at_call 63; refine (Ih.out _).mono ?_; rintro e w' ⟨rfl, hb'⟩; (try have hc7 := cell_aft (v := .int .u8 (48 + (n : Int) % 10)) hb' (g := w.heap.size) (by simp) (heap_new w (.cells #[.int .u8 (48 + (n : Int) % 10)] 5)) rfl))
      all_goals
        go_wp2_with fail
        go_ret
        exact ⟨by rw [numT_big hlt, Hq.out]; rfl, by first | exact bw_al (bw_to (Below.drew HB.out) hb') _ | exact bw_to (Below.drew (bw_al HB.out _)) hb'⟩
end Go.Proofs.YtofpjbdelmmclaaGreatDoor

/- slices.Sort at a row of texts of the call's own. -/
namespace Go.Proofs.YtofpjbdelmmclaaGreatDoor
open Go Go.RowKit Go.Sort
set_option linter.unusedVariables false
set_option linter.unusedSimpArgs false
theorem merge_sortB (l : List ByteArray) : (((l.map (·.data.toList)).mergeSort fun x y => decide (x ≤ y)).map ofL) = sortB l := by
  apply sorted_uniq
  · have h := (List.mergeSort_perm (l.map (·.data.toList)) (fun x y => decide (x ≤ y))).map ofL
    have e : (l.map (·.data.toList)).map ofL = l := by
      rw [List.map_map]
      conv => rhs; rw [← List.map_id l]
      apply List.map_congr_left
      intro x _
      exact ofL_eq x
    rw [e] at h
    exact h
  · rw [SortedS, List.pairwise_map]
    have hs := List.pairwise_mergeSort (le := fun x y : List UInt8 => decide (x ≤ y)) (fun a b c h1 h2 => by
      simp only [decide_eq_true_eq] at *
      exact List.le_trans h1 h2) (fun a b => by
      simp only [Bool.or_eq_true, decide_eq_true_eq]
      exact List.le_total a b) (l.map (·.data.toList))
    refine hs.imp (fun {a b} h => ?_)
    simp only [decide_eq_true_eq] at h
    unfold nmLt
    rw [bytesLess_eq, bytes_toList, bytes_toList, ofL_list, ofL_list]
    exact decide_eq_false (List.not_lt.2 h)
end Go.Proofs.YtofpjbdelmmclaaGreatDoor

/- The group that rows generate: the program's. -/
namespace Go.Proofs.YtofpjbdelmmclaaGreatDoor
open Go Go.RowKit
set_option linter.unusedVariables false
set_option linter.unusedSimpArgs false

def grpL (F : List ByteArray) : List ByteArray := if F.length ≤ 130 then sortB F else []
theorem grpL_yes {F : List ByteArray} (h : F.length ≤ 130) : grpL F = sortB F := by unfold grpL; rw [if_pos h]
theorem grpL_no {F : List ByteArray} (h : ¬ F.length ≤ 130) : grpL F = [] := by unfold grpL; rw [if_neg h]
theorem part_get {n : Nat} {gens : List ByteArray} {t : Nat} (h : t < (cloB n gens t).length) (j : Nat) (y : ByteArray) : (partB n gens t j y)[t]? = some (cloB n gens t)[t] := by
  obtain ⟨r, hr⟩ := exp_pre y (gens.take j) (cloB n gens t)
  unfold partB
  rw [← hr, List.getElem?_append_left h, List.getElem?_eq_getElem h]
theorem updF_app {L : List ByteArray} {x : ByteArray} {f : ByteArray → Bool} (h : ∀ s, f s = true ↔ s ∈ L) (s : ByteArray) : updF f x s = true ↔ s ∈ L ++ [x] := by
  unfold updF
  rw [List.mem_append, List.mem_singleton, ← h s]
  by_cases e : s = x
  · rw [if_pos e]; simp [e]
  · rw [if_neg e]; simp [e]
end Go.Proofs.YtofpjbdelmmclaaGreatDoor
