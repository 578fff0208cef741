/- Truth by lead heads, a touch that comes round: the program's. -/
import Derived.Test.YtofpjbdelmmclaaGreatDoorPk17
import Derived.Test.YtofpjbdelmmclaaGreatDoorPk11
import Derived.Test.YtofpjbdelmmclaaGreatDoorPk12
import Derived.Test.YtofpjbdelmmclaaGreatDoorPk15
import Derived.Test.YtofpjbdelmmclaaGreatDoorPk14
namespace Go.Proofs.YtofpjbdelmmclaaGreatDoor
open Go Go.RowKit
set_option linter.unusedVariables false
set_option linter.unusedSimpArgs false

theorem scanB_inv {n : Nat} (hn : n ≤ 8) : ∀ (cs : List ByteArray) {r : ByteArray}, Inv n r → ∀ x ∈ scanB r cs, Inv n x
  | [], r, hr, x, hx => by rw [List.mem_singleton.1 hx]; exact hr
  | c :: cs, r, hr, x, hx => by
    rw [scanB] at hx
    rcases List.mem_cons.1 hx with rfl | hx
    · exact hr
    · exact scanB_inv hn cs (apply_inv hn hr c) x hx
theorem lead_inv {n : Nat} (hn : n ≤ 8) (cs : List ByteArray) {r : ByteArray} (hr : Inv n r) : ∀ x ∈ leadB r cs, Inv n x := fun x hx => scanB_inv hn cs hr x (List.mem_of_mem_take hx)
theorem heads_inv {n : Nat} (hn : n ≤ 8) {f : UInt8 → ByteArray} (hf : ∀ c, Inv n (f c)) : ∀ (t : List UInt8) {h : ByteArray}, Inv n h → ∀ x ∈ headsB f h t, Inv n x
  | [], h, hh, x, hx => by rw [List.mem_singleton.1 hx]; exact hh
  | c :: t, h, hh, x, hx => by
    rw [headsB] at hx
    rcases List.mem_cons.1 hx with rfl | hx
    · exact hh
    · exact heads_inv hn hf t (hh.times hn (hf c)) x hx
/-- The inverse of a row. -/
noncomputable def trB (n : Nat) (a : ByteArray) : ByteArray := Classical.epsilon fun b => Inv2 n a b
theorem trB_ok {n : Nat} (hn : n ≤ 8) {a : ByteArray} (h : Inv n a) : Inv2 n a (trB n a) := Classical.epsilon_spec (inv2_of hn h)
theorem Inv2.inv {n : Nat} {a b : ByteArray} (h : Inv2 n a b) : Inv n b := ⟨h.hb, a, h.ha, h.ba, h.ab⟩
noncomputable def quoB (n : Nat) (x y : ByteArray) : ByteArray := timesB x (trB n y)
noncomputable def prodL (n : Nat) (xs ys : List ByteArray) : List ByteArray := xs.flatMap fun x => ys.map (quoB n x)
theorem prod_take {n : Nat} {xs ys : List ByteArray} {i : Nat} (h : i < xs.length) : prodL n (xs.take (i + 1)) ys = prodL n (xs.take i) ys ++ ys.map (quoB n xs[i]) := by
  unfold prodL; rw [List.take_succ_eq_append_getElem h, List.flatMap_append]; simp
/-- No two of a row's first entries clash. -/
def PairsOk (P : Nat → Nat → Prop) (L i k : Nat) : Prop := (∀ a b, a < i → a < b → b < L → P a b) ∧ (∀ b, i < b → b < k → P i b)
theorem pairs_start (P : Nat → Nat → Prop) (L : Nat) : PairsOk P L 0 1 := ⟨fun a b h => by omega, fun b h1 h2 => by omega⟩
theorem pairs_yes {P : Nat → Nat → Prop} {L i k : Nat} (hp : P i k) : PairsOk P L i (k + 1) ↔ PairsOk P L i k :=
  ⟨fun h => ⟨h.1, fun b h1 h2 => h.2 b h1 (by omega)⟩, fun h => ⟨h.1, fun b h1 h2 => by
    by_cases e : b = k
    · rw [e]; exact hp
    · exact h.2 b h1 (by omega)⟩⟩
theorem pairs_no {P : Nat → Nat → Prop} {L i k : Nat} (hi : i < k) (hp : ¬ P i k) : ¬ PairsOk P L i (k + 1) := fun h => hp (h.2 k hi (by omega))
theorem pairs_next {P : Nat → Nat → Prop} {L i : Nat} (hi : i < L) : PairsOk P L (i + 1) (i + 1 + 1) ↔ PairsOk P L i L :=
  ⟨fun h => ⟨fun a b h1 h2 h3 => h.1 a b (by omega) h2 h3, fun b h1 h2 => h.1 i b (by omega) h1 h2⟩, fun h => ⟨fun a b h1 h2 h3 => by
    by_cases e : a = i
    · rw [e]; exact h.2 b (by omega) h3
    · exact h.1 a b (by omega) h2 h3, fun b h1 h2 => by omega⟩⟩
/-- Two heads clash. -/
noncomputable def NoClash (n : Nat) (S hs : List ByteArray) (a b : Nat) : Prop := timesB (trB n (hs.getD a ⟨#[]⟩)) (hs.getD b ⟨#[]⟩) ∉ S
noncomputable def Clear (n : Nat) (S hs : List ByteArray) : Prop := ∀ a b, a < b → b < hs.length → NoClash n S hs a b
theorem clear_end {n : Nat} {S hs : List ByteArray} : PairsOk (NoClash n S hs) hs.length hs.length (hs.length + 1) ↔ Clear n S hs :=
  ⟨fun h a b h1 h2 => h.1 a b (by omega) h1 h2, fun h => ⟨fun a b _ h2 h3 => h a b h2 h3, fun b h1 h2 => by omega⟩⟩
/-- Truth by lead heads. -/
noncomputable def leadR (n : Nat) (m : Mt) : List ByteArray := leadB (roundsB n) m.l
open Classical in
noncomputable def thB (n : Nat) (m : Mt) (k : Cl) (t : ByteArray) : Bool := decide (leadR n m).Nodup && decide (Clear n (prodL n (leadR n m) (leadR n m)) ((headsT m k t).take t.size))
def endT (m : Mt) (k : Cl) (t : ByteArray) : ByteArray := endB (headB m.stage.toNat m.l k.bob k.single) (roundsB m.stage.toNat) t.data.toList
theorem headsT_last (m : Mt) (k : Cl) (t : ByteArray) : (headsT m k t)[t.size]? = some (endT m k t) := by
  have := heads_last (headB m.stage.toNat m.l k.bob k.single) t.data.toList (roundsB m.stage.toNat)
  rw [bytes_len] at this
  exact this
theorem headsT_inv {m : Mt} {k : Cl} {n : Nat} (h : MGood m n) (t : ByteArray) : ∀ x ∈ headsT m k t, Inv n x := by
  rw [headsT_n h.st]
  exact heads_inv h.hi (fun c => run_inv h.hi _ (Inv.rounds h.hi)) _ (Inv.rounds h.hi)
theorem str_beq (a b : ByteArray) : (a.toList == b.toList) = decide (a = b) := by
  rw [bytes_toList, bytes_toList, Bool.eq_iff_iff, beq_iff_eq, decide_eq_true_eq]
  exact ⟨bytes_ext, fun h => by rw [h]⟩
end Go.Proofs.YtofpjbdelmmclaaGreatDoor

/- Contract: a method turned (the reference's). -/
namespace Go.Proofs.YtofpjbdelmmclaaGreatDoor
open Go Go.RowKit
set_option linter.unusedVariables false
set_option linter.unusedSimpArgs false

theorem own_blk {w w' : World} {base : Nat} {e : TypeId} {size n g c : Nat} {xs : List Value} (h : w.ownsRow base e size (.slice (some ⟨g, 0, none⟩) n c) n xs) (hb : w'.heap[g]? = w.heap[g]?) : w'.ownsRow base e size (.slice (some ⟨g, 0, none⟩) n c) n xs := by
  obtain ⟨h1, h2⟩ := h
  refine ⟨h1, ?_⟩
  rcases h2 with ⟨h2, _⟩ | ⟨g', cap, cur, hv, hg, hp, r⟩
  · cases h2
  · cases hv
    exact .inr ⟨g, c, cur, rfl, hg, hb.trans hp, r⟩
theorem sl_new (w : World) (cs : Array Value) (e : TypeId) (n : Nat) (hn : n ≤ maxLen) (hs : cs.size = n) : Sl (w.alloc (.cells cs e)) 1 (.slice (some ⟨w.heap.size, 0, none⟩) n n) n cs.toList :=
  sl_of_own (own_of_heap (base := 0) (heap_new w _) (Nat.zero_le _) hn (by omega))
theorem rev_snoc {xs : List ByteArray} {j p : Nat} (hp : p + j + 1 = xs.length) : (xs.reverse.take (j + 1)).map Value.string = (xs.reverse.take j).map Value.string ++ [.string (xs[p]'(by omega))] := by
  rw [List.take_succ_eq_append_getElem (by simp; omega), List.map_append]
  congr 1
  simp only [List.map_cons, List.map_nil]
  congr 2
  rw [List.getElem_reverse]
  congr 1; omega
end Go.Proofs.YtofpjbdelmmclaaGreatDoor

/- Truth by lead heads: the program's, whole. -/
namespace Go.Proofs.YtofpjbdelmmclaaGreatDoor
open Go Go.RowKit
set_option linter.unusedVariables false
set_option linter.unusedSimpArgs false

theorem updF_snoc {L : List ByteArray} {x : ByteArray} {f : ByteArray → Bool} (h : ∀ s, f s = true ↔ s ∈ L) (s : ByteArray) : updF f x s = true ↔ s ∈ L ++ [x] := by
  unfold updF
  rw [List.mem_append, List.mem_singleton, ← h s]
  by_cases e : s = x
  · rw [if_pos e]; simp [e]
  · rw [if_neg e]; simp [e]
theorem info_isl : (Tryz.prog.info? 40).map (fun i => (i.zero, i.size, i.bytes)) = some (some (.slice none 0 0), 1, 24) := by kernel_rfl
end Go.Proofs.YtofpjbdelmmclaaGreatDoor

/- Contracts: the reference's heads of a proof. -/
namespace Go.Proofs.YtofpjbdelmmclaaGreatDoor
open Go Go.RowKit
set_option linter.unusedVariables false
set_option linter.unusedSimpArgs false

theorem callC_three {c : UInt8} (h : callC c = true) : c = 112 ∨ c = 98 ∨ c = 115 := by
  unfold callC at h
  simp only [Bool.or_eq_true, decide_eq_true_eq] at h
  rcases h with (h | h) | h
  · exact .inl (UInt8.toNat_inj.1 (by show c.toNat = 112; omega))
  · exact .inr (.inl (UInt8.toNat_inj.1 (by show c.toNat = 98; omega)))
  · exact .inr (.inr (UInt8.toNat_inj.1 (by show c.toNat = 115; omega)))
theorem l8CallQ_any (c : UInt8) (hc : callC c = true) (w : World) : Calls Tryz.prog 164 #[.string (callT c)] w fun e w' => e = .returned (.bool true) ∧ w = w' := by
  rcases callC_three hc with rfl | rfl | rfl
  · unfold callT
    go_enter Tryz.func164, Tryz.ntmps164
    go_wp2_with fail
    go_ret
    exact ⟨rfl, rfl⟩
  · unfold callT
    go_enter Tryz.func164, Tryz.ntmps164
    go_wp2_with fail
    go_ret
    exact ⟨rfl, rfl⟩
  · unfold callT
    go_enter Tryz.func164, Tryz.ntmps164
    go_wp2_with fail
    go_ret
    exact ⟨rfl, rfl⟩
set_option maxHeartbeats 2000000 in
theorem l8AskedQ_any (m : Mt) (v : Value) (k : Cl) (c : UInt8) (hc : callC c = true) (w : World) (h : MethAt w m v) (hs : MtSmall m) (hk : ClSmall k) : Calls Tryz.prog 175 #[m.v v, k.v, .string (callT c)] w fun e w' => e = .returned (.bool (callsB m k)) ∧ Below w.heap.size w w' := by
  have HM := Lib.hid (fun W (hW : Below w.heap.size w W) => l8Good_any m v k W (h.to hW) hs hk)
  have HC := Lib.hid (fun W => l8CallQ_any c hc W)
  obtain ⟨A, q, hv⟩ := h.form
  subst hv
  obtain ⟨p, hp⟩ : ∃ p, p = callsB m k := ⟨_, rfl⟩
  rw [← hp] at HM ⊢
  clear h hp hc
  unfold Mt.v Cl.v at *
  go_enter Tryz.func175, Tryz.ntmps175
  go_wp2_with fail
  refine box2 (C := fun W => Calls _ _ _ W _) ?_
  intro wb hw k1 k2 hB0
  have R1 := boxRule k1
  have R2 := boxRule k2
  clear k1 k2
  refine (HM.out _ hw).mono ?_; rintro e w1 ⟨rfl, hb1⟩
  cases p
  · go_wp2_with fail
    go_ret
    exact ⟨rfl, bw_to hw hb1⟩
  · go_wp2_with (go_at_call 164; refine (HC.out _).mono ?_; rintro e w' ⟨rfl, rfl⟩)
    go_ret
    exact ⟨rfl, bw_to hw hb1⟩
set_option maxHeartbeats 2000000 in
theorem specCallHeadQ_yes (m : Mt) (v : Value) (k : Cl) (n : Nat) (c : UInt8) (hc : callC c = true) (w : World) (hg : CGood m k n) (hok : callsB m k = true) (h : MethAt w m v) (hs : MtSmall m) (hk : ClSmall k) : Calls Tryz.prog 144 #[m.v v, k.v, .string (callT c)] w fun e w' => e = .returned (.tuple #[.string (headB n m.l k.bob k.single c), .bool true]) ∧ Below w.heap.size w w' := by
  have HM := Lib.hid (fun W (hW : Below w.heap.size w W) => l8AskedQ_any m v k c hc W (h.to hW) hs hk)
  have HH := Lib.hid (fun W (hW : Below w.heap.size w W) => l8Head_any m v k n c W hg (h.1.to hW))
  rw [hok] at HM
  obtain ⟨A, q, hv⟩ := h.form
  subst hv
  clear h hc
  unfold Mt.v Cl.v at *
  go_enter Tryz.func144, Tryz.ntmps144
  go_wp2_with fail
  refine box2 (C := fun W => Calls _ _ _ W _) ?_
  intro wb hw k1 k2 hB0
  have R1 := boxRule k1
  have R2 := boxRule k2
  clear k1 k2
  refine (HM.out _ hw).mono ?_; rintro e w1 ⟨rfl, hb1⟩
  have hB1 := bw_to hw hb1
  go_wp2_with fail
  refine (HH.out _ hB1).mono ?_; rintro e w2 ⟨rfl, hb2⟩
  go_wp2_with fail
  go_ret2
  exact ⟨rfl, bw_to hB1 hb2⟩
set_option maxRecDepth 10000 in
set_option maxHeartbeats 4000000 in
theorem l20Heads_any (m : Mt) (v : Value) (k : Cl) (t : ByteArray) (n : Nat) (w : World) (hg : CGood m k n) (hok : callsB m k = true) (hM : MethAt w m v) (hsm : MtSmall m) (hk : ClSmall k) (ht : touchB t.data.toList = true) : Calls Tryz.prog 105 #[m.v v, k.v, .string t] w fun e w' =>
    ∃ A q, e = .returned (.slice A (t.size + 1) q) ∧ w'.ownsRow w.heap.size 9 1 (.slice A (t.size + 1) q) (t.size + 1) ((headsB (headB n m.l k.bob k.single) (roundsB n) t.data.toList).map Value.string) ∧ Below w.heap.size w w' := by
  have hfin : ∀ c, RowIn n (headB n m.l k.bob k.single c) := fun c => head_in hg.m.hi _ _ _ _
  have hHH := fun W (hW : Below w.heap.size w W) c hc => specCallHeadQ_yes m v k n c hc W hg hok (hM.to hW) hsm hk
  have hv := hM.1
  have hall : t.data.toList.all callC = true := by unfold touchB at ht; rw [Bool.and_eq_true] at ht; exact ht.1
  have Hall := Lib.hid hall
  obtain ⟨F, hF⟩ : ∃ F, F = headB n m.l k.bob k.single := ⟨_, rfl⟩
  rw [← hF] at hfin ⊢
  have Hfin := Lib.hid hfin
  have hHH2 : ∀ W, Below w.heap.size w W → ∀ c, callC c = true → Calls Tryz.prog 144 #[m.v v, k.v, .string (callT c)] W fun e w' => e = .returned (.tuple #[.string (F c), .bool true]) ∧ Below W.heap.size W w' := by rw [hF]; exact hHH
  have hn := hg.m.hi
  have hst := hg.m.st
  obtain ⟨A, q, hv', _⟩ := hv
  subst hv'
  unfold Mt.v Cl.v at *
  rw [hst] at hHH2 ⊢
  have HH := Lib.hid hHH2
  have htl := (touch_size ht).2
  clear hg hfin hF hHH hHH2 hst ht hok hM hsm hk hall
  go_enter Tryz.func105, Tryz.ntmps105
  go_wp2_with (go_at_call 109; refine (l1Rounds_any n _ hn).mono ?_; rintro e w' ⟨rfl, rfl⟩)
  refine box3 (C := fun W => Code.wp _ _ _ _ W) ?_
  intro wb hw k1 k2 k3 hB0
  have hown0 : wb.ownsRow (w.heap.size + 2) 9 1 (.slice (some ⟨w.heap.size + 2, 0, none⟩) 1 1) 1 [.string (roundsB n)] := own_of_heap k3 (Nat.le_refl _) (by unfold maxLen; omega) rfl
  have hsz : w.heap.size + 2 ≤ wb.heap.size := Nat.le_of_lt (blk_lt k3)
  have R1 := fun W i hb => boxRuleB (B := w.heap.size + 2) k1 (by omega) W i hb
  have R2 := fun W i hb => boxRuleB (B := w.heap.size + 2) k2 (by omega) W i hb
  have hrin := Lib.hid (rounds_in hn)
  clear k1 k2 k3
  go_loopw [7, 8, 9] (fun h o i wr => ∃ (j : Nat) (x : ByteArray) (A' : Option Addr) (q' : Nat), j ≤ t.size ∧ i = .int .i64 j ∧ h = .string x ∧ x = endB F (roundsB n) (t.data.toList.take j) ∧ o = .slice A' (j + 1) q' ∧ wr.ownsRow (w.heap.size + 2) 9 1 (.slice A' (j + 1) q') (j + 1) ((headsB F (roundsB n) (t.data.toList.take j)).map Value.string) ∧ Below (w.heap.size + 2) wb wr) (fun _ _ i _ => t.size - (intOf i).toNat)
  case atStart => exact ⟨0, _, _, 1, by omega, rfl, rfl, rfl, rfl, hown0, Below.refl _ _⟩
  case round =>
    obtain ⟨j, x, A', q', hj, rfl, rfl, hx, rfl, hown, hB⟩ := hrel
    obtain ⟨wo, rfl⟩ : ∃ wo : World, wo = wr := ⟨_, rfl⟩
    have hBw : Below w.heap.size w wo := hw.trans (hB.mono (by omega))
    by_cases hlt : j < t.size
    · have hlt' : j < t.data.toList.length := by rw [bytes_len]; exact hlt
      have hxin : RowIn n x := by rw [hx]; exact end_in Hfin.out _ hrin.out
      have Hx : Hid (timesB x (F t[j]) = endB F (roundsB n) (t.data.toList.take (j + 1))) := Lib.hid (by rw [end_take hlt', hx, bytes_get t j hlt])
      have Hs : Hid (headsB F (roundsB n) (t.data.toList.take (j + 1)) = headsB F (roundsB n) (t.data.toList.take j) ++ [timesB x (F t[j])]) := Lib.hid (by rw [heads_take hlt', Hx.out])
      have Htm := Lib.hid (fun W => l1Times_any x (F t[j]) W (by rw [hxin.1]; omega) (by rw [(Hfin.out t[j]).1]; omega) (row_hin hxin.1 (Hfin.out t[j])))
      have hex : t.extract j (j + 1) = callT t[j] := bytes_ext (by rw [← bytes_toList, ext_one hlt]; rfl)
      have hcc : callC t[j] = true := by have h := List.all_eq_true.1 Hall.out _ (List.getElem_mem hlt'); rw [bytes_get t j hlt] at h; exact h
      have Hc : Hid (∀ W, Below w.heap.size w W → Calls Tryz.prog 144 #[.agg #[.string m.name, .int .i64 (n : Int), .slice A m.l.length q], .agg #[.string k.bob, .string k.single], .string (t.extract j (j + 1))] W fun e w' => e = .returned (.tuple #[.string (F t[j]), .bool true]) ∧ Below W.heap.size W w') := Lib.hid (fun W hW => by rw [hex]; exact HH.out W hW t[j] hcc)
      obtain ⟨z, hz⟩ : ∃ z, z = F t[j] := ⟨_, rfl⟩
      rw [← hz] at Hx Hs Htm Hc
      have R1' := fun W i hb => R1 W i (hB.trans (hb : Below (w.heap.size + 2) wo W))
      have R2' := fun W i hb => R2 W i (hB.trans (hb : Below (w.heap.size + 2) wo W))
      have hdr : Below wo.heap.size wo wo.drew := Below.drew (Below.refl _ _)
      have hsz2 : w.heap.size + 2 ≤ wo.heap.size := by have := hB.size; omega
      have R3 := fun W i hb => R1' W i ((hb : Below wo.heap.size wo W).mono hsz2)
      have R4 := fun W i hb => R2' W i ((hb : Below wo.heap.size wo W).mono hsz2)
      have hj0 : (0 : Int) ≤ (j : Int) := by omega
      have hj1 : IntKind.i64.wrap ((j : Int) + 1) = (j : Int) + 1 := IntWalk.i64_in _ ⟨by omega, by omega⟩
      have hj2 : ((j : Int) + 1).toNat = j + 1 := by omega
      have hj3 : (j : Int) + 1 ≤ (t.size : Int) := by omega
      have hj4 : (j : Int) ≤ (j : Int) + 1 := by omega
      have hj5 : (0 : Int) ≤ (j : Int) + 1 := by omega
      clear hz hxin hx hex R1' R2' hcc
      obtain ⟨y, hy⟩ : ∃ y, y = timesB x z := ⟨_, rfl⟩
      simp only [← hy] at Hx Hs Htm
      clear hy
      have R1s := Lib.hid R1
      have R2s := Lib.hid R2
      clear R1 R2
      go_wp2_with fail
      go_region_held3 (fun W => Below wo.heap.size wo W) (first | with_reducible assumption | exact Below.drew (by assumption) | exact bw_to (by assumption) hb')
        (first | (go_at_call 144; refine (Hc.out _ (bw_to hBw (by assumption))).mono ?_; rintro e w' ⟨rfl, hb'⟩))
      all_goals
        have hBB : Below wo.heap.size wo w' := by assumption
        have hown2 := own_to hown hBB
        have hB2 := hB.trans (hBB.mono hsz2)
        clear R3 R4 hj1 hj2 hj3 hj4 hj5 hdr
        go_wp2_with (first | (go_at_call 145; refine (Htm.out _).mono ?_; rintro e w7 ⟨rfl, rfl⟩) | (at_builtin; go_must (refine wpList_app _ rfl _ _ _ rfl (w.heap.size + 2) 9 _ 1 16 Tryz.underlying24 info_str rfl (by omega) hown2 [.string y] rfl rfl rfl (one_mem rfl) (by omega) (by omega) (by have := hB2.size; omega) ?_); intro v2 w3 hown3 hb3 hg3 _))
        obtain ⟨A2, q2, e2, _⟩ := sl_of_own hown3
        subst e2
        refine ⟨⟨j + 1, y, A2, q2, by omega, by go_num, rfl, Hx.out, rfl, ?_, hB2.trans hb3⟩, by simp [intOf]; omega⟩
        rw [← str_snoc Hs.out]
        exact hown3
    · obtain rfl : j = t.size := by omega
      rw [List.take_of_length_le (by rw [bytes_len]; exact Nat.le_refl _)] at hown
      clear hx
      go_wp2_with fail
      go_ret
      exact ⟨_, _, rfl, own_base hown (by omega), hBw⟩
end Go.Proofs.YtofpjbdelmmclaaGreatDoor

/- Truth by lead heads: the reference's. -/
namespace Go.Proofs.YtofpjbdelmmclaaGreatDoor
open Go Go.RowKit
set_option linter.unusedVariables false
set_option linter.unusedSimpArgs false

set_option maxHeartbeats 2000000 in
theorem l1HasQ_any (V : Value) (l : List ByteArray) (r : ByteArray) (w : World) (hV : Strs w V l) : Calls Tryz.prog 169 #[V, .string r] w fun e w' => e = .returned (.bool (decide (r ∈ l))) ∧ w = w' := by
  obtain ⟨A, c, rfl, h1, h2, hrd⟩ := hV
  unfold maxLen at h2
  go_enter Tryz.func169, Tryz.ntmps169
  go_wp2_with fail
  go_loop [9] (fun i => ∃ k : Nat, k ≤ l.length ∧ i = .int .i64 k ∧ r ∉ l.take k) (fun i => l.length - (intOf i).toNat)
  case atStart => exact ⟨0, by omega, rfl, by simp⟩
  case round =>
    obtain ⟨k, hk, rfl, hn⟩ := hrel
    have Hn := Lib.hid hn
    clear hn
    by_cases hlt : k < l.length
    · obtain ⟨ad, rfl, hC⟩ := strs_el hrd hlt
      have hC0 := hC w (Below.refl _ _)
      have He := Lib.hid (str_beq l[k] r)
      have Hno : Hid (l[k] ≠ r → r ∉ l.take (k + 1)) := Lib.hid (fun h hm => by
        rw [List.take_succ_eq_append_getElem hlt, List.mem_append, List.mem_singleton] at hm
        rcases hm with hm | hm
        · exact Hn.out hm
        · exact h hm.symm)
      have Hyes : Hid (l[k] = r → r ∈ l) := Lib.hid (fun h => by rw [← h]; exact List.getElem_mem hlt)
      obtain ⟨x, hx⟩ : ∃ x, x = l[k] := ⟨_, rfl⟩
      rw [← hx] at hC0 He Hno Hyes
      clear hC hx
      cases hb : (x.toList == r.toList)
      · have Hne : Hid (x ≠ r) := Lib.hid (fun e => by rw [He.out, decide_eq_true e] at hb; cases hb)
        go_wp2_with fail
        exact ⟨⟨k + 1, by omega, by go_num, Hno.out Hne.out⟩, by simp [intOf]; omega⟩
      · have Hd := Lib.hid (decide_eq_true (Hyes.out (by rw [He.out] at hb; exact of_decide_eq_true hb)))
        go_wp2_with fail
        go_ret
        exact ⟨ret_bool Hd.out.symm, rfl⟩
    · have Hd := Lib.hid (decide_eq_false (fun h : r ∈ l => Hn.out (by rw [List.take_of_length_le (by omega)]; exact h)))
      go_wp2_with fail
      go_ret
      exact ⟨ret_bool Hd.out.symm, rfl⟩
end Go.Proofs.YtofpjbdelmmclaaGreatDoor

/- Truth by lead heads: the reference's, whole. -/
namespace Go.Proofs.YtofpjbdelmmclaaGreatDoor
open Go Go.RowKit
set_option linter.unusedVariables false
set_option linter.unusedSimpArgs false

theorem wpOp_inQ {P : Program} {ops : Array Oper} {Q : Exit → Act → World → Prop} {i : Nat} {o : Oper} {K : Act → World → Prop} {a : Act} {w : World} (ho : ops[i]? = some o) (hw : Region.wanted o (yielded ops a.tmps) = true) (h : o.wp P a w K Q) : wpOp P ops Q i K a w := by
  unfold wpOp
  simp only [ho, hw, if_true]
  exact .inl h
end Go.Proofs.YtofpjbdelmmclaaGreatDoor
