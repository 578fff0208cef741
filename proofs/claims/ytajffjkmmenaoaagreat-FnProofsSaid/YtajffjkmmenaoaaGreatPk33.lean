/- Contracts: the rows of a touch, both sides. -/
import Derived.Test.YtajffjkmmenaoaaGreatPk22
import Derived.Test.YtajffjkmmenaoaaGreatPk18
import Derived.Test.YtajffjkmmenaoaaGreatPk11
namespace Go.Proofs.YtajffjkmmenaoaaGreat
open Go Go.RowKit
set_option linter.unusedVariables false
set_option linter.unusedSimpArgs false

def headsT (m : Mt) (k : Cl) (t : ByteArray) : List ByteArray := headsB (headB m.stage.toNat m.l k.bob k.single) (roundsB m.stage.toNat) t.data.toList
def rowsT (m : Mt) (k : Cl) (t : ByteArray) : List ByteArray := rowsB m.l ((headsT m k t).take t.size)
def askT (m : Mt) (k : Cl) (t : ByteArray) : Bool := callsB m k && touchB t.data.toList
def okT (m : Mt) (k : Cl) (t : ByteArray) : Bool := askT m k t && decide (t.size * m.l.length ≤ 800)
def rowsO (m : Mt) (k : Cl) (t : ByteArray) : List ByteArray := if okT m k t then rowsT m k t else []
theorem headsT_n {m : Mt} {k : Cl} {t : ByteArray} {n : Nat} (h : m.stage = (n : Int)) : headsT m k t = headsB (headB n m.l k.bob k.single) (roundsB n) t.data.toList := by
  unfold headsT; rw [h]; rfl
theorem headsT_len (m : Mt) (k : Cl) (t : ByteArray) : (headsT m k t).length = t.size + 1 := by unfold headsT; rw [heads_len, bytes_len]
theorem headsT_in {m : Mt} {k : Cl} {n : Nat} (h : MGood m n) (t : ByteArray) : ∀ x ∈ headsT m k t, RowIn n x := by
  rw [headsT_n h.st]
  exact heads_in (fun c => head_in h.hi _ _ _ _) _ (rounds_in h.hi)
theorem rowsT_len (m : Mt) (k : Cl) (t : ByteArray) : (rowsT m k t).length = t.size * m.l.length := by
  unfold rowsT; rw [rows_len, List.length_take, headsT_len]; congr 1; omega
theorem touch_size {t : ByteArray} (h : touchB t.data.toList = true) : 1 ≤ t.size ∧ t.size ≤ 60 := by
  unfold touchB at h; rw [Bool.and_eq_true, decide_eq_true_eq, bytes_len] at h; exact h.2
set_option maxRecDepth 10000 in
set_option maxHeartbeats 2000000 in
theorem leadsFrom_any (m : Mt) (v V : Value) (hs : List ByteArray) (n : Nat) (w : World) (hg : MGood m n) (hv : Strs w v m.l) (hV : Strs w V hs) (hin : ∀ x ∈ hs, RowIn n x) (hl : hs.length ≤ 100000) : Calls Tryz.prog 65 #[m.v v, V] w fun e w' =>
    ∃ A q, e = .returned (.slice A (rowsB m.l hs).length q) ∧ w'.ownsRow w.heap.size 9 1 (.slice A (rowsB m.l hs).length q) (rowsB m.l hs).length ((rowsB m.l hs).map Value.string) ∧ Below w.heap.size w w' := by
  have Hlr := Lib.hid (fun W (hW : Below w.heap.size w W) r hr => leadRows_any m v r n W hg.hi hr (hv.to hW) (by have := hg.len; omega) hg.ok)
  have hml := hg.len
  have Hin := Lib.hid hin
  obtain ⟨A0, q0, hv', _⟩ := hv
  subst hv'
  obtain ⟨A, c, rfl, h1, h2, hrd⟩ := hV
  unfold maxLen at h2
  unfold Mt.v at *
  clear hg hin
  go_enter Tryz.func65, Tryz.ntmps65
  go_wp2_with fail
  refine box2 (C := fun W => Code.wp _ _ _ _ W) ?_
  intro wb hw k1 k2 hB0
  have R1 := boxRule k1
  have hown0 : wb.ownsRow w.heap.size 9 1 (.slice (some ⟨w.heap.size + 1, 0, none⟩) 0 0) 0 [] := own_of_heap (cs := #[]) k2 (Nat.le_succ _) (by unfold maxLen; omega) rfl
  have hlt0 : w.heap.size < wb.heap.size := blk_lt k1
  have hRg : ∀ (W : World) (i : Nat), Below (w.heap.size + 1) wb W → W.cell? ⟨w.heap.size, i, none⟩ = #[Value.string m.name, .int .i64 m.stage, .slice A0 m.l.length q0][i]? := fun W i hb => boxRuleB k1 (Nat.lt_succ_self _) W i hb
  have hown0 := own_of_heap (base := w.heap.size + 1) (n := 0) (size := 1) (cs := #[]) k2 (Nat.le_refl _) (by unfold maxLen; omega) rfl
  have hsz1 : w.heap.size + 1 ≤ wb.heap.size := hlt0
  clear k1 k2 R1
  go_loopw [5, 11] (fun o i wr => ∃ (j : Nat) (A' : Option Addr) (q' : Nat), j ≤ hs.length ∧ i = .int .i64 j ∧ o = .slice A' (rowsB m.l (hs.take j)).length q' ∧ wr.ownsRow (w.heap.size + 1) 9 1 (.slice A' (rowsB m.l (hs.take j)).length q') (rowsB m.l (hs.take j)).length ((rowsB m.l (hs.take j)).map Value.string) ∧ Below (w.heap.size + 1) wb wr) (fun _ i _ => hs.length - (intOf i).toNat)
  case atStart => exact ⟨0, _, _, by omega, rfl, rfl, hown0, Below.refl _ _⟩
  case round =>
    obtain ⟨j, A', q', hj, rfl, rfl, hown, hB⟩ := hrel
    by_cases hlt : j < hs.length
    · obtain ⟨ad, rfl, hC⟩ := strs_el hrd hlt
      have hBw : Below w.heap.size w wr := hw.trans (hB.mono (Nat.le_succ _))
      have hC0 := hC wr hBw
      have hR0 := fun i => hRg wr i hB
      have hlen := rows_len m.l (hs.take j)
      have hjl : (hs.take j).length = j := by simp; omega
      rw [hjl] at hlen
      have hmul : j * m.l.length ≤ 100000 * 40 := Nat.mul_le_mul (by omega) hml.2
      have Hs : Hid (rowsB m.l (hs.take (j + 1)) = rowsB m.l (hs.take j) ++ leadB hs[j] m.l) := Lib.hid (rows_take hlt)
      have Hll := Lib.hid (lead_len hs[j] m.l)
      have Hl := Lib.hid (Hlr.out wr hBw hs[j] (Hin.out _ (List.getElem_mem hlt)))
      obtain ⟨h, hh⟩ : ∃ h, h = hs[j] := ⟨_, rfl⟩
      rw [← hh] at hC0 Hs Hl Hll
      obtain ⟨L, hL⟩ : ∃ L, L = rowsB m.l (hs.take j) := ⟨_, rfl⟩
      rw [← hL] at hlen hown Hs ⊢
      have Hlen := Lib.hid hlen
      have hLl : L.length ≤ 4000000 := by omega
      clear hC hh hL hjl hlen hmul
      go_wp2_with fail
      refine Hl.out.mono ?_; rintro e w2 ⟨A1, q1, rfl, hown1, hb2⟩
      have hown2 := own_to hown hb2
      have hB2 := hB.trans (hb2.mono (by have := hB.size; omega))
      have hs1 := sl_of_own hown1
      have hn1 := nilok_own hown1
      go_wp2_with (at_builtin; go_must (refine wpList_app_sl _ rfl _ _ _ rfl (w.heap.size + 1) 9 _ 1 16 Tryz.underlying24 info_str rfl (by omega) hown2 rfl hs1 hn1 rfl (strs_one _) (by omega) (by omega) (by have := hB2.size; omega) ?_); intro v2 w3 hown3 hb3 hg3 _)
      have e3 : (L ++ leadB h m.l).length = L.length + m.l.length := by rw [List.length_append, Hll.out]
      obtain ⟨A2, q2, e2, _⟩ := sl_of_own hown3
      subst e2
      rw [← List.map_append, ← e3, ← Hs.out] at hown3
      refine ⟨⟨j + 1, A2, q2, by omega, by go_num, by rw [Hs.out, e3], hown3, hB2.trans hb3⟩, by simp [intOf]; omega⟩
    · obtain rfl : j = hs.length := by omega
      rw [List.take_length] at hown
      go_wp2_with fail
      go_ret
      exact ⟨A', q', rfl, own_base hown (Nat.le_succ _), hw.trans (hB.mono (Nat.le_succ _))⟩
set_option maxRecDepth 10000 in
set_option maxHeartbeats 2000000 in
theorem touchRows_any (m : Mt) (v : Value) (k : Cl) (t : ByteArray) (w : World) (hok : askT m k t = true) (hv : Strs w v m.l) : Calls Tryz.prog 34 #[m.v v, k.v, .string t] w fun e w' =>
    ∃ A q, e = .returned (.tuple #[.slice A (rowsO m k t).length q, .bool (okT m k t)]) ∧ w'.ownsRow w.heap.size 9 1 (.slice A (rowsO m k t).length q) (rowsO m k t).length ((rowsO m k t).map Value.string) ∧ Below w.heap.size w w' := by
  have hok' := hok
  unfold askT at hok'
  rw [Bool.and_eq_true] at hok'
  obtain ⟨n, hg⟩ := cgood_of hok'.1
  have hts := touch_size hok'.2
  have Hh := Lib.hid (fun W hW => heads_any m v k t n W hg (hv.to hW) hok'.2)
  have Hlf := Lib.hid (fun W V (hW : Below w.heap.size w W) (hV : Strs W V ((headsT m k t).take t.size)) => leadsFrom_any m v V ((headsT m k t).take t.size) n W hg.m (hv.to hW) hV (fun x hx => headsT_in hg.m t x (List.mem_of_mem_take hx)) (by simp; omega))
  rw [← headsT_n hg.m.st] at Hh
  have HL := Lib.hid (rowsT_len m k t)
  have hml := hg.m.len
  have Hok := Lib.hid hok
  have Hhl := Lib.hid (headsT_len m k t)
  obtain ⟨A, c, hv', _⟩ := hv
  subst hv'
  unfold Mt.v Cl.v at *
  have hmul : t.size * m.l.length ≤ 60 * 40 := Nat.mul_le_mul hts.2 hml.2
  obtain ⟨N, hN⟩ : ∃ N, N = t.size * m.l.length := ⟨_, rfl⟩
  have HN := Lib.hid hN
  have hNN : IntKind.i64.wrap ((t.size : Int) * (m.l.length : Int)) = (N : Int) := by rw [show (t.size : Int) * (m.l.length : Int) = (N : Int) by rw [hN]; simp]; exact IntWalk.i64_in _ ⟨by omega, by omega⟩
  have hN2 : (t.size : Int) * (m.l.length : Int) = (N : Int) := by rw [hN]; simp
  have hNb : N ≤ 2400 := by omega
  clear hok hok' hg hN hmul
  by_cases hbig : N ≤ 800
  · have ho : okT m k t = true := by unfold okT; rw [Hok.out, decide_eq_true (by rw [← HN.out]; exact hbig)]; rfl
    have hr : rowsO m k t = rowsT m k t := by unfold rowsO; rw [if_pos ho]
    rw [ho, hr]
    have hd : decide ((800 : Int) < (N : Int)) = false := by simp; omega
    clear ho hr
    go_enter Tryz.func34, Tryz.ntmps34
    go_wp2_with fail
    refine box2 (C := fun W => Code.wp _ _ _ _ W) ?_
    intro wb hw k1 k2 hB0
    have R1 := boxRule k1
    have R2 := boxRule k2
    clear k1 k2
    have hdr : Below wb.heap.size wb wb.drew := Below.drew (Below.refl _ _)
    have Hcut : Hid (∀ W A1 q1, W.ownsRow wb.heap.size 9 1 (.slice A1 (t.size + 1) q1) (t.size + 1) ((headsT m k t).map Value.string) → Strs W (.slice A1 t.size q1) ((headsT m k t).take t.size)) := Lib.hid fun W A1 q1 h => by
      have h2 := own_upto h (Nat.le_succ t.size)
      rw [← List.map_take] at h2
      have hl : ((headsT m k t).take t.size).length = t.size := by rw [List.length_take, Hhl.out]; omega
      have h3 := sl_of_own h2
      unfold Strs
      rw [hl]; exact h3
    go_region_held3 (fun W => Below wb.heap.size wb W) (first | exact Below.drew (by assumption) | exact bw_to (by assumption) hb')
      (first | (go_at_call 21; refine (Hh.out _ (bw_to hw (by assumption))).mono ?_; rintro e w1 ⟨A1, q1, rfl, hown, hb'⟩; (have hz1 : wb.heap.size ≤ w1.heap.size := Nat.le_trans (Below.size (by assumption : Below wb.heap.size wb _)) hb'.size); (have hown := own_base (base' := wb.heap.size) hown (Below.size (by assumption))); (have hq1 : t.size + 1 ≤ q1 := (sl_cap hown)); (have hq2 : (t.size : Int) ≤ (q1 : Int) := by omega); (have hq3 : (0 : Int) ≤ (t.size : Int) := by omega)) | (go_at_call 65; refine (Hlf.out _ _ (bw_to hw (by assumption)) (Hcut.out _ _ _ hown)).mono ?_; rintro e w' ⟨A2, q2, rfl, hown2, hb'⟩))
    all_goals
      have hBB : Below wb.heap.size wb w' := by assumption
      have hz2 := Nat.le_trans hw.size hz1
      clear hown
      go_wp2_with fail
      go_ret2
      exact ⟨A2, q2, rfl, own_base hown2 hz2, bw_to hw hBB⟩
  · have ho : okT m k t = false := by unfold okT; rw [Hok.out, decide_eq_false (by rw [← HN.out]; exact hbig)]; rfl
    have hr : rowsO m k t = [] := by unfold rowsO; rw [ho]; rfl
    rw [ho, hr]
    have hd : decide ((800 : Int) < (N : Int)) = true := by simp; omega
    clear ho hr
    go_enter Tryz.func34, Tryz.ntmps34
    go_wp2_with fail
    go_ret2
    exact ⟨_, _, rfl, World.ownsRow_nil _ _ _ _, bw_al (bw_al (Below.refl _ _) _) _⟩
set_option maxHeartbeats 1000000 in
theorem implTouchRows_any (m : Mt) (v : Value) (k : Cl) (t : ByteArray) (w : World) (h : MethAt w m v) (hs : MtSmall m) (hk : ClSmall k) (ht : t.size ≤ maxLen) : Calls Tryz.prog 9 #[m.v v, k.v, .string t] w fun e w' =>
    ∃ A q, e = .returned (.tuple #[.slice A (rowsO m k t).length q, .bool (okT m k t)]) ∧ w'.ownsRow w.heap.size 9 1 (.slice A (rowsO m k t).length q) (rowsO m k t).length ((rowsO m k t).map Value.string) ∧ Below w.heap.size w w' := by
  have Hg := Lib.hid (fun W hW => goodFor_any m v k t W (h.to hW) hs hk ht)
  have Hr := Lib.hid (fun (ho : askT m k t = true) W hW => touchRows_any m v k t W ho (h.1.to hW))
  obtain ⟨A, c, hv⟩ := h.form
  subst hv
  have Hdef : Hid (askT m k t = (callsB m k && touchB t.data.toList)) := Lib.hid rfl
  obtain ⟨b, hb⟩ : ∃ b, b = askT m k t := ⟨_, rfl⟩
  rw [← Hdef.out, ← hb] at Hg
  have Hb := Lib.hid hb
  unfold Mt.v Cl.v at *
  clear h hb
  go_enter Tryz.func9, Tryz.ntmps9
  go_wp2_with fail
  refine box2 (C := fun W => Calls _ _ _ W _) ?_
  intro wb hw k1 k2 hB0
  have R1 := boxRule k1
  have R2 := boxRule k2
  clear k1 k2
  refine (Hg.out _ hw).mono ?_; rintro e w1 ⟨rfl, hb1⟩
  cases b
  · have Ho : Hid (okT m k t = false) := Lib.hid (by unfold okT; rw [← Hb.out]; rfl)
    have Hro : Hid (rowsO m k t = []) := Lib.hid (by unfold rowsO; rw [Ho.out]; rfl)
    go_wp2_with fail
    go_ret2
    refine ⟨none, 0, ?_, ?_, bw_to hw hb1⟩
    · rw [Ho.out, Hro.out]; rfl
    · rw [Hro.out]; exact World.ownsRow_nil _ _ _ _
  · have hB1 := bw_to hw hb1
    go_wp2_with fail
    refine (Hr.out Hb.out.symm _ hB1).mono ?_; rintro e w2 ⟨A2, q2, rfl, hown, hb2⟩
    go_wp2_with fail
    go_ret2
    exact ⟨A2, q2, rfl, own_base hown hB1.size, bw_to hB1 hb2⟩
end Go.Proofs.YtajffjkmmenaoaaGreat

/- Truth by lead heads, a touch that comes round: the program's. -/
namespace Go.Proofs.YtajffjkmmenaoaaGreat
open Go Go.RowKit
set_option linter.unusedVariables false
set_option linter.unusedSimpArgs false

theorem scanB_inv {n : Nat} (hn : n ≤ 8) : ∀ (cs : List ByteArray) {r : ByteArray}, Inv n r → ∀ x ∈ scanB r cs, Inv n x
  | [], r, hr, x, hx => by rw [List.mem_singleton.1 hx]; exact hr
  | c :: cs, r, hr, x, hx => by
    rw [scanB] at hx
    rcases List.mem_cons.1 hx with rfl | hx
    · exact hr
    · exact scanB_inv hn cs (apply_inv hn hr c) x hx
theorem lead_inv {n : Nat} (hn : n ≤ 8) (cs : List ByteArray) {r : ByteArray} (hr : Inv n r) : ∀ x ∈ leadB r cs, Inv n x := fun x hx => scanB_inv hn cs hr x (List.mem_of_mem_take hx)
theorem heads_inv {n : Nat} (hn : n ≤ 8) {f : UInt8 → ByteArray} (hf : ∀ c, Inv n (f c)) : ∀ (t : List UInt8) {h : ByteArray}, Inv n h → ∀ x ∈ headsB f h t, Inv n x
  | [], h, hh, x, hx => by rw [List.mem_singleton.1 hx]; exact hh
  | c :: t, h, hh, x, hx => by
    rw [headsB] at hx
    rcases List.mem_cons.1 hx with rfl | hx
    · exact hh
    · exact heads_inv hn hf t (hh.times hn (hf c)) x hx
/-- The inverse of a row. -/
noncomputable def trB (n : Nat) (a : ByteArray) : ByteArray := Classical.epsilon fun b => Inv2 n a b
theorem trB_ok {n : Nat} (hn : n ≤ 8) {a : ByteArray} (h : Inv n a) : Inv2 n a (trB n a) := Classical.epsilon_spec (inv2_of hn h)
theorem Inv2.inv {n : Nat} {a b : ByteArray} (h : Inv2 n a b) : Inv n b := ⟨h.hb, a, h.ha, h.ba, h.ab⟩
noncomputable def quoB (n : Nat) (x y : ByteArray) : ByteArray := timesB x (trB n y)
noncomputable def prodL (n : Nat) (xs ys : List ByteArray) : List ByteArray := xs.flatMap fun x => ys.map (quoB n x)
theorem prod_take {n : Nat} {xs ys : List ByteArray} {i : Nat} (h : i < xs.length) : prodL n (xs.take (i + 1)) ys = prodL n (xs.take i) ys ++ ys.map (quoB n xs[i]) := by
  unfold prodL; rw [List.take_succ_eq_append_getElem h, List.flatMap_append]; simp
/-- No two of a row's first entries clash. -/
def PairsOk (P : Nat → Nat → Prop) (L i k : Nat) : Prop := (∀ a b, a < i → a < b → b < L → P a b) ∧ (∀ b, i < b → b < k → P i b)
theorem pairs_start (P : Nat → Nat → Prop) (L : Nat) : PairsOk P L 0 1 := ⟨fun a b h => by omega, fun b h1 h2 => by omega⟩
theorem pairs_yes {P : Nat → Nat → Prop} {L i k : Nat} (hp : P i k) : PairsOk P L i (k + 1) ↔ PairsOk P L i k :=
  ⟨fun h => ⟨h.1, fun b h1 h2 => h.2 b h1 (by omega)⟩, fun h => ⟨h.1, fun b h1 h2 => by
    by_cases e : b = k
    · rw [e]; exact hp
    · exact h.2 b h1 (by omega)⟩⟩
theorem pairs_no {P : Nat → Nat → Prop} {L i k : Nat} (hi : i < k) (hp : ¬ P i k) : ¬ PairsOk P L i (k + 1) := fun h => hp (h.2 k hi (by omega))
theorem pairs_next {P : Nat → Nat → Prop} {L i : Nat} (hi : i < L) : PairsOk P L (i + 1) (i + 1 + 1) ↔ PairsOk P L i L :=
  ⟨fun h => ⟨fun a b h1 h2 h3 => h.1 a b (by omega) h2 h3, fun b h1 h2 => h.1 i b (by omega) h1 h2⟩, fun h => ⟨fun a b h1 h2 h3 => by
    by_cases e : a = i
    · rw [e]; exact h.2 b (by omega) h3
    · exact h.1 a b (by omega) h2 h3, fun b h1 h2 => by omega⟩⟩
/-- Two heads clash. -/
noncomputable def NoClash (n : Nat) (S hs : List ByteArray) (a b : Nat) : Prop := timesB (trB n (hs.getD a ⟨#[]⟩)) (hs.getD b ⟨#[]⟩) ∉ S
noncomputable def Clear (n : Nat) (S hs : List ByteArray) : Prop := ∀ a b, a < b → b < hs.length → NoClash n S hs a b
theorem clear_end {n : Nat} {S hs : List ByteArray} : PairsOk (NoClash n S hs) hs.length hs.length (hs.length + 1) ↔ Clear n S hs :=
  ⟨fun h a b h1 h2 => h.1 a b (by omega) h1 h2, fun h => ⟨fun a b _ h2 h3 => h a b h2 h3, fun b h1 h2 => by omega⟩⟩
/-- Truth by lead heads. -/
noncomputable def leadR (n : Nat) (m : Mt) : List ByteArray := leadB (roundsB n) m.l
open Classical in
noncomputable def thB (n : Nat) (m : Mt) (k : Cl) (t : ByteArray) : Bool := decide (leadR n m).Nodup && decide (Clear n (prodL n (leadR n m) (leadR n m)) ((headsT m k t).take t.size))
def endT (m : Mt) (k : Cl) (t : ByteArray) : ByteArray := endB (headB m.stage.toNat m.l k.bob k.single) (roundsB m.stage.toNat) t.data.toList
theorem headsT_last (m : Mt) (k : Cl) (t : ByteArray) : (headsT m k t)[t.size]? = some (endT m k t) := by
  have := heads_last (headB m.stage.toNat m.l k.bob k.single) t.data.toList (roundsB m.stage.toNat)
  rw [bytes_len] at this
  exact this
theorem headsT_inv {m : Mt} {k : Cl} {n : Nat} (h : MGood m n) (t : ByteArray) : ∀ x ∈ headsT m k t, Inv n x := by
  rw [headsT_n h.st]
  exact heads_inv h.hi (fun c => run_inv h.hi _ (Inv.rounds h.hi)) _ (Inv.rounds h.hi)
set_option maxRecDepth 10000 in
set_option maxHeartbeats 2000000 in
theorem touchEnd_any (m : Mt) (v : Value) (k : Cl) (t : ByteArray) (n : Nat) (w : World) (hg : CGood m k n) (hv : Strs w v m.l) (ht : touchB t.data.toList = true) : Calls Tryz.prog 49 #[m.v v, k.v, .string t] w fun e w' => e = .returned (.string (endT m k t)) ∧ Below w.heap.size w w' := by
  have Hh := Lib.hid (fun W hW => heads_any m v k t n W hg (hv.to hW) ht)
  rw [← headsT_n hg.m.st] at Hh
  have Hhl := Lib.hid (headsT_len m k t)
  have Hlast := Lib.hid (headsT_last m k t)
  have hts := touch_size ht
  obtain ⟨A, c, hv', _⟩ := hv
  subst hv'
  unfold Mt.v Cl.v at *
  clear hg ht
  go_enter Tryz.func49, Tryz.ntmps49
  go_wp2_with fail
  refine box2 (C := fun W => Calls _ _ _ W _) ?_
  intro wb hw k1 k2 hB0
  have R1 := boxRule k1
  have R2 := boxRule k2
  clear k1 k2
  refine (Hh.out _ hw).mono ?_; rintro e w1 ⟨A1, q1, rfl, hown, hb1⟩
  obtain ⟨A', c', e', _, _, hrd⟩ := sl_of_own hown
  cases e'
  rw [← Hhl.out] at hrd
  obtain ⟨ad, rfl, hC⟩ := strs_el (k := t.size) hrd (by rw [Hhl.out]; omega)
  have hC0 := hC _ (Below.refl _ _)
  have he : (headsT m k t)[t.size]'(by rw [Hhl.out]; omega) = endT m k t := by
    obtain ⟨h1, h2⟩ := List.getElem?_eq_some_iff.1 Hlast.out
    exact h2
  rw [he] at hC0
  clear hC he hrd hown
  go_wp2_with fail
  go_ret
  exact ⟨rfl, bw_to hw hb1⟩
theorem str_beq (a b : ByteArray) : (a.toList == b.toList) = decide (a = b) := by
  rw [bytes_toList, bytes_toList, Bool.eq_iff_iff, beq_iff_eq, decide_eq_true_eq]
  exact ⟨bytes_ext, fun h => by rw [h]⟩
set_option maxHeartbeats 2000000 in
theorem comesRound_any (m : Mt) (v : Value) (k : Cl) (t : ByteArray) (n : Nat) (w : World) (hg : CGood m k n) (hv : Strs w v m.l) (ht : touchB t.data.toList = true) : Calls Tryz.prog 20 #[m.v v, k.v, .string t] w fun e w' => e = .returned (.bool (decide (endT m k t = roundsB n))) ∧ Below w.heap.size w w' := by
  have He := Lib.hid (fun W hW => touchEnd_any m v k t n W hg (hv.to hW) ht)
  have hn := hg.m.hi
  have hst := hg.m.st
  obtain ⟨A, c, hv', _⟩ := hv
  subst hv'
  unfold Mt.v Cl.v at *
  rw [hst] at He ⊢
  clear hg ht hst
  go_enter Tryz.func20, Tryz.ntmps20
  go_wp2_with fail
  refine box2 (C := fun W => Code.wp _ _ _ _ W) ?_
  intro wb hw k1 k2 hB0
  have R1 := boxRule k1
  have R2 := boxRule k2
  have hdr : Below wb.heap.size wb wb.drew := Below.drew (Below.refl _ _)
  clear k1 k2
  go_region_held3 (fun W => Below wb.heap.size wb W) (first | exact Below.drew (by assumption) | exact bw_to (by assumption) hb')
    (first | (go_at_call 50; refine (rounds_any n _ hn).mono ?_; rintro e w' ⟨rfl, rfl⟩) | (go_at_call 49; refine (He.out _ (bw_to hw (by assumption))).mono ?_; rintro e w' ⟨rfl, hb'⟩))
  all_goals
    have hBB : Below wb.heap.size wb w' := by assumption
    go_wp2_with fail
    go_ret
    exact ⟨ret_bool (str_beq _ _), bw_to hw hBB⟩
end Go.Proofs.YtajffjkmmenaoaaGreat

/- Truth by lead heads: the program's, whole. -/
namespace Go.Proofs.YtajffjkmmenaoaaGreat
open Go Go.RowKit
set_option linter.unusedVariables false
set_option linter.unusedSimpArgs false

theorem updF_snoc {L : List ByteArray} {x : ByteArray} {f : ByteArray → Bool} (h : ∀ s, f s = true ↔ s ∈ L) (s : ByteArray) : updF f x s = true ↔ s ∈ L ++ [x] := by
  unfold updF
  rw [List.mem_append, List.mem_singleton, ← h s]
  by_cases e : s = x
  · rw [if_pos e]; simp [e]
  · rw [if_neg e]; simp [e]
theorem info_isl : (Tryz.prog.info? 64).map (fun i => (i.zero, i.size, i.bytes)) = some (some (.slice none 0 0), 1, 24) := by kernel_rfl
end Go.Proofs.YtajffjkmmenaoaaGreat

/- Contract: a method turned (the reference's). -/
namespace Go.Proofs.YtajffjkmmenaoaaGreat
open Go Go.RowKit
set_option linter.unusedVariables false
set_option linter.unusedSimpArgs false

theorem own_blk {w w' : World} {base : Nat} {e : TypeId} {size n g c : Nat} {xs : List Value} (h : w.ownsRow base e size (.slice (some ⟨g, 0, none⟩) n c) n xs) (hb : w'.heap[g]? = w.heap[g]?) : w'.ownsRow base e size (.slice (some ⟨g, 0, none⟩) n c) n xs := by
  obtain ⟨h1, h2⟩ := h
  refine ⟨h1, ?_⟩
  rcases h2 with ⟨h2, _⟩ | ⟨g', cap, cur, hv, hg, hp, r⟩
  · cases h2
  · cases hv
    exact .inr ⟨g, c, cur, rfl, hg, hb.trans hp, r⟩
theorem sl_new (w : World) (cs : Array Value) (e : TypeId) (n : Nat) (hn : n ≤ maxLen) (hs : cs.size = n) : Sl (w.alloc (.cells cs e)) 1 (.slice (some ⟨w.heap.size, 0, none⟩) n n) n cs.toList :=
  sl_of_own (own_of_heap (base := 0) (heap_new w _) (Nat.zero_le _) hn (by omega))
theorem rev_snoc {xs : List ByteArray} {j p : Nat} (hp : p + j + 1 = xs.length) : (xs.reverse.take (j + 1)).map Value.string = (xs.reverse.take j).map Value.string ++ [.string (xs[p]'(by omega))] := by
  rw [List.take_succ_eq_append_getElem (by simp; omega), List.map_append]
  congr 1
  simp only [List.map_cons, List.map_nil]
  congr 2
  rw [List.getElem_reverse]
  congr 1; omega
end Go.Proofs.YtajffjkmmenaoaaGreat
