/- Contracts: is a row among rising rows, is it among rows; the next head; the ring of a head. -/
import Derived.Test.YtjiiflpoiaaccaaGreatPk27
import Derived.Test.YtjiiflpoiaaccaaGreatPk26
namespace Go.Proofs.YtjiiflpoiaaccaaGreat
open Go Go.RowKit
set_option linter.unusedVariables false
set_option linter.unusedSimpArgs false

theorem isNaNs_any (x : ByteArray) (w : World) : Calls Tryz.prog 308 #[.string x] w fun e w' => e = .returned (.bool false) ∧ w = w' := by
  go_enter Tryz.func308, Tryz.ntmps308
  go_wp2_with fail
  go_ret
  exact ⟨ret_bool (by simp), rfl⟩
theorem isNaNc_any (x : ByteArray) (w : World) : Calls Tryz.prog 333 #[.string x] w fun e w' => e = .returned (.bool false) ∧ w = w' := by
  go_enter Tryz.func333, Tryz.ntmps333
  go_wp2_with fail
  go_ret
  exact ⟨ret_bool (by simp), rfl⟩
theorem lessStr_any (x y : ByteArray) (w : World) : Calls Tryz.prog 307 #[.string x, .string y] w fun e w' => e = .returned (.bool (nmLt x y)) ∧ w = w' := by
  unfold nmLt
  go_enter Tryz.func307, Tryz.ntmps307
  go_wp2_with (go_at_call 333; refine (isNaNc_any _ _).mono ?_; rintro e w' ⟨rfl, rfl⟩)
  go_ret
  exact ⟨rfl, rfl⟩
theorem bs_up {l : List ByteArray} {r : ByteArray} {h : Nat} (hs : SortedS l) (hh : h < l.length) (e : nmLt l[h] r = true) : ∀ k (hk : k < l.length), k < h + 1 → nmLt l[k] r = true := by
  intro k hk hk2
  rcases Nat.lt_or_ge k h with h3 | h3
  · cases hx : nmLt l[k] r
    · have h5 := (List.pairwise_iff_getElem.1 hs) k h hk hh h3
      rw [le_trans' hx h5] at e
      cases e
    · rfl
  · obtain rfl : k = h := by omega
    exact e
theorem bs_dn {l : List ByteArray} {r : ByteArray} {h : Nat} (hs : SortedS l) (hh : h < l.length) (e : nmLt l[h] r = false) : ∀ k (hk : k < l.length), h ≤ k → nmLt l[k] r = false := by
  intro k hk hk2
  rcases Nat.eq_or_lt_of_le hk2 with e2 | h4
  · subst e2; exact e
  · exact le_trans' e ((List.pairwise_iff_getElem.1 hs) h k hh hk h4)
set_option maxRecDepth 10000 in
set_option maxHeartbeats 2000000 in
theorem binSearch_any (V : Value) (l : List ByteArray) (r : ByteArray) (w : World) (hV : Strs w V l) (hs : SortedS l) (hl : l.length ≤ 1000000) : Calls Tryz.prog 243 #[V, .string r] w fun e w' => (∃ i : Nat, e = .returned (.tuple #[.int .i64 i, .bool (decide (r ∈ l))])) ∧ w = w' := by
  obtain ⟨A, c, rfl, h1, h2, hrd⟩ := hV
  unfold maxLen at h2
  have Hs := Lib.hid hs
  clear hs
  go_enter Tryz.func243, Tryz.ntmps243
  go_wp2_with fail
  go_loop [7, 8] (fun a b => ∃ i j : Nat, i ≤ j ∧ j ≤ l.length ∧ a = .int .i64 i ∧ b = .int .i64 j ∧ (∀ k (h : k < l.length), k < i → nmLt l[k] r = true) ∧ (∀ k (h : k < l.length), j ≤ k → nmLt l[k] r = false)) (fun a b => (intOf b).toNat - (intOf a).toNat)
  case atStart => exact ⟨0, l.length, by omega, by omega, rfl, rfl, fun k h hk => absurd hk (by omega), fun k h hk => absurd h (by omega)⟩
  case round =>
    obtain ⟨i, j, hij, hj, rfl, rfl, hlo, hhi⟩ := hrel
    have Hlo := Lib.hid hlo
    have Hhi := Lib.hid hhi
    clear hlo hhi
    by_cases hlt : i < j
    · obtain ⟨h, hh⟩ : ∃ h, h = (i + j) / 2 := ⟨_, rfl⟩
      have hh1 : i ≤ h := by omega
      have hh2 : h < j := by omega
      have hhl : h < l.length := by omega
      have hu1 : IntKind.u64.wrap ((i : Int) + j) = (i : Int) + j := IntWalk.u64_in _ ⟨by omega, by omega⟩
      have hu2 : ((i : Int) + j) / 2 = (h : Int) := by omega
      have hu3 : ((i : Int) + j).tdiv 2 = (h : Int) := by rw [Int.tdiv_eq_ediv_of_nonneg (by omega)]; omega
      obtain ⟨ad, rfl, hC⟩ := strs_el hrd hhl
      have hC0 := hC w (Below.refl _ _)
      have H1 : Hid (nmLt l[h] r = true → ∀ k (h' : k < l.length), k < h + 1 → nmLt l[k] r = true) := Lib.hid (fun e => bs_up Hs.out hhl e)
      have H2 : Hid (nmLt l[h] r = false → ∀ k (h' : k < l.length), h ≤ k → nmLt l[k] r = false) := Lib.hid (fun e => bs_dn Hs.out hhl e)
      obtain ⟨x, hx⟩ : ∃ x, x = l[h] := ⟨_, rfl⟩
      rw [← hx] at hC0
      have H1' : Hid (nmLt x r = true → ∀ k (h' : k < l.length), k < h + 1 → nmLt l[k] r = true) := Lib.hid (by rw [hx]; exact H1.out)
      have H2' : Hid (nmLt x r = false → ∀ k (h' : k < l.length), h ≤ k → nmLt l[k] r = false) := Lib.hid (by rw [hx]; exact H2.out)
      clear hC hx hh H1 H2
      cases hb : nmLt x r
      · have Hb := Lib.hid hb
        clear hb
        go_wp2_with (go_at_call 307; refine (lessStr_any _ _ _).mono ?_; rintro e w' ⟨rfl, rfl⟩; rw [Hb.out])
        exact ⟨⟨i, h, by omega, by omega, by go_num, by go_num, Hlo.out, H2'.out Hb.out⟩, by simp [intOf]; omega⟩
      · have Hb := Lib.hid hb
        clear hb
        go_wp2_with (go_at_call 307; refine (lessStr_any _ _ _).mono ?_; rintro e w' ⟨rfl, rfl⟩; rw [Hb.out])
        exact ⟨⟨h + 1, j, by omega, by omega, by go_num, by go_num, H1'.out Hb.out, Hhi.out⟩, by simp [intOf]; omega⟩
    · obtain rfl : i = j := by omega
      have Hm := Lib.hid (search_mem (l := l) (r := r) Hs.out hj Hlo.out Hhi.out)
      by_cases hil : i < l.length
      · obtain ⟨ad, rfl, hC⟩ := strs_el hrd hil
        have hC0 := hC w (Below.refl _ _)
        have He := Lib.hid (sl_beq l[i] r)
        obtain ⟨x, hx⟩ : ∃ x, x = l[i] := ⟨_, rfl⟩
        have Hm2 : Hid (r ∈ l ↔ x = r) := Lib.hid (Hm.out.trans ⟨fun ⟨_, e⟩ => hx.trans e, fun e => ⟨hil, hx.symm.trans e⟩⟩)
        rw [← hx] at hC0 He
        clear hC hx
        cases hb : (x.toList == r.toList)
        · have hd : decide (r ∈ l) = false := decide_eq_false (fun h => by have e := Hm2.out.1 h; rw [He.out, decide_eq_true e] at hb; cases hb)
          have Hd := Lib.hid hd
          clear hd
          go_wp2_with (go_at_call 308; refine (isNaNs_any _ _).mono ?_; rintro e w' ⟨rfl, rfl⟩)
          go_ret2
          exact ⟨⟨i, by rw [Hd.out]; rfl⟩, rfl⟩
        · have hd : decide (r ∈ l) = true := decide_eq_true (Hm2.out.2 (by rw [He.out] at hb; exact of_decide_eq_true hb))
          have Hd := Lib.hid hd
          clear hd
          go_wp2_with (go_at_call 308; refine (isNaNs_any _ _).mono ?_; rintro e w' ⟨rfl, rfl⟩)
          go_ret2
          exact ⟨⟨i, by rw [Hd.out]; rfl⟩, rfl⟩
      · have hd : decide (r ∈ l) = false := decide_eq_false (fun h => by obtain ⟨h3, _⟩ := Hm.out.1 h; exact hil h3)
        have Hd := Lib.hid hd
        clear hd
        go_wp2_with fail
        go_ret2
        exact ⟨⟨i, by rw [Hd.out]; rfl⟩, rfl⟩
theorem has_any (V : Value) (l : List ByteArray) (r : ByteArray) (w : World) (hV : Strs w V l) (hs : SortedS l) (hl : l.length ≤ 1000000) : Calls Tryz.prog 159 #[V, .string r] w fun e w' => e = .returned (.bool (decide (r ∈ l))) ∧ w = w' := by
  have H := Lib.hid (binSearch_any V l r w hV hs hl)
  obtain ⟨b, hb⟩ : ∃ b, b = decide (r ∈ l) := ⟨_, rfl⟩
  rw [← hb] at H ⊢
  clear hV hs hb
  go_enter Tryz.func159, Tryz.ntmps159
  go_wp2_with fail
  refine H.out.mono ?_; rintro e w' ⟨⟨i, rfl⟩, rfl⟩
  go_wp2_with fail
  go_ret
  exact ⟨rfl, rfl⟩
set_option maxHeartbeats 2000000 in
theorem l1HasS_any (V : Value) (l : List ByteArray) (r : ByteArray) (w : World) (hV : Strs w V l) : Calls Tryz.prog 162 #[V, .string r] w fun e w' => e = .returned (.bool (decide (r ∈ l))) ∧ w = w' := by
  obtain ⟨A, c, rfl, h1, h2, hrd⟩ := hV
  unfold maxLen at h2
  go_enter Tryz.func162, Tryz.ntmps162
  go_wp2_with fail
  go_loop [9] (fun i => ∃ k : Nat, k ≤ l.length ∧ i = .int .i64 k ∧ r ∉ l.take k) (fun i => l.length - (intOf i).toNat)
  case atStart => exact ⟨0, by omega, rfl, by simp⟩
  case round =>
    obtain ⟨k, hk, rfl, hn⟩ := hrel
    have Hn := Lib.hid hn
    clear hn
    by_cases hlt : k < l.length
    · obtain ⟨ad, rfl, hC⟩ := strs_el hrd hlt
      have hC0 := hC w (Below.refl _ _)
      have He := Lib.hid (sl_beq l[k] r)
      have Hno : Hid (l[k] ≠ r → r ∉ l.take (k + 1)) := Lib.hid (fun h hm => by
        rw [List.take_succ_eq_append_getElem hlt, List.mem_append, List.mem_singleton] at hm
        rcases hm with hm | hm
        · exact Hn.out hm
        · exact h hm.symm)
      have Hyes : Hid (l[k] = r → r ∈ l) := Lib.hid (fun h => by rw [← h]; exact List.getElem_mem hlt)
      obtain ⟨x, hx⟩ : ∃ x, x = l[k] := ⟨_, rfl⟩
      rw [← hx] at hC0 He Hno Hyes
      clear hC hx
      cases hb : (x.toList == r.toList)
      · have Hne : Hid (x ≠ r) := Lib.hid (fun e => by rw [He.out, decide_eq_true e] at hb; cases hb)
        go_wp2_with fail
        exact ⟨⟨k + 1, by omega, by go_num, Hno.out Hne.out⟩, by simp [intOf]; omega⟩
      · have Hd := Lib.hid (decide_eq_true (Hyes.out (by rw [He.out] at hb; exact of_decide_eq_true hb)))
        go_wp2_with fail
        go_ret
        exact ⟨ret_bool Hd.out.symm, rfl⟩
    · have Hd := Lib.hid (decide_eq_false (fun h : r ∈ l => Hn.out (by rw [List.take_of_length_le (by omega)]; exact h)))
      go_wp2_with fail
      go_ret
      exact ⟨ret_bool Hd.out.symm, rfl⟩
end Go.Proofs.YtjiiflpoiaaccaaGreat

/- Contract: the next layer of a repair, the program's. -/
namespace Go.Proofs.YtjiiflpoiaaccaaGreat
open Go Go.RowKit Go.Sort
set_option linter.unusedVariables false
set_option linter.unusedSimpArgs false

theorem gr_comp {w a b : World} {row : Option Nat} (h : w.grownBy a row) (h2 : a.grownBy b row) : w.grownBy b row :=
  ⟨h2.os.trans h.os, h2.tape.trans h.tape, h2.output.trans h.output, Nat.le_trans h.size h2.size, fun k hk hne => (h2.block k (Nat.lt_of_lt_of_le hk h.size) hne).trans (h.block k hk hne)⟩
theorem gr_new {w a b : World} {row : Option Nat} (h : w.grownBy a row) (h2 : Below w.heap.size a b) : w.grownBy b row :=
  ⟨h2.os.trans h.os, h2.tape.trans h.tape, h2.output.trans h.output, Nat.le_trans h.size h2.size, fun k hk hne => (h2.block k hk).trans (h.block k hk hne)⟩
theorem news_snoc (S Q : List ByteArray) (x : ByteArray) : newsB S (Q ++ [x]) = if x ∈ visitAll S Q then newsB S Q else newsB S Q ++ [x] := by
  have h1 := news_app S (Q ++ [x])
  rw [va_snoc, visitB, ← news_app] at h1
  by_cases h : x ∈ S ++ newsB S Q
  · rw [if_pos h] at h1
    rw [← news_app, if_pos h]
    exact List.append_cancel_left h1
  · rw [if_neg h, List.append_assoc] at h1
    rw [← news_app, if_neg h]
    exact List.append_cancel_left h1
theorem va_snoc_in {S Q : List ByteArray} {x : ByteArray} (h : x ∈ visitAll S Q) (z : ByteArray) : z ∈ visitAll S (Q ++ [x]) ↔ z ∈ visitAll S Q := by
  rw [va_snoc, visit_iff]
  constructor
  · rintro (h1 | rfl)
    · exact h1
    · exact h
  · exact .inl
theorem updF_va {S Q : List ByteArray} {x : ByteArray} {f : ByteArray → Bool} (h : ∀ s, f s = true ↔ s ∈ visitAll S Q) (s : ByteArray) : updF f x s = true ↔ s ∈ visitAll S (Q ++ [x]) := by
  unfold updF
  rw [va_snoc, visit_iff, ← h s]
  by_cases e : s = x
  · rw [if_pos e]; simp [e]
  · rw [if_neg e]; simp [e]
theorem news_len (S Q : List ByteArray) : (newsB S Q).length ≤ Q.length := by
  have h1 := va_len Q S
  rw [← news_app, List.length_append] at h1
  omega
theorem sortS_gr (g n c base : Nat) (l : List ByteArray) (w : World) (h : w.ownsRow base 9 1 (.slice (some ⟨g, 0, none⟩) n c) n (l.map Value.string)) (hl : n ≤ 100000000) : Calls Tryz.prog 309 #[.slice (some ⟨g, 0, none⟩) n c] w fun e w' =>
    e = .returned (.tuple #[]) ∧ w'.ownsRow base 9 1 (.slice (some ⟨g, 0, none⟩) n c) n ((sortB l).map Value.string) ∧ Below base w w' ∧ w.grownBy w' (some g) := by
  have hlen : l.length = n := by have := h.1; simpa using this
  subst hlen
  obtain ⟨ss, hss⟩ : ∃ ss, ss = l.map (·.data.toList) := ⟨_, rfl⟩
  have hsl : ss.length = l.length := by rw [hss, List.length_map]
  have e1 : l.map Value.string = ss.map encStr := by
    rw [hss, List.map_map]
    apply List.map_congr_left
    intro x _
    rfl
  have e2 : ((ss.mergeSort fun x y => decide (x ≤ y)).map encStr) = (sortB l).map Value.string := by
    rw [← merge_sortB l, ← hss, List.map_map]
    rfl
  rw [e1] at h
  rcases h.2 with ⟨hnil, _⟩ | ⟨g', cap, cur, hv, hbase, hb, h1, h2, h3, h4⟩
  · cases hnil
  · injection hv with ha hn hc
    injection ha with ha
    injection ha with ha
    subst ha hc
    rw [← hsl] at h1 h4 hl ⊢
    have hs := Tryz.slices_Sort_string g 0 c ss w (holds_of_block hb (by simpa using h4)) (Array.getElem?_eq_some_iff.1 hb).1 (by omega)
    refine hs.mono ?_
    rintro e w' ⟨rfl, k, os, rfl⟩
    have hg := grownBy_sorted (w := w) (g := g) (n := k) (os := os) (ss.mergeSort fun x y => decide (x ≤ y)).toArray
    have ho := ownsRow_sorted (n := k) (os := os) (ts := ss.mergeSort fun x y => decide (x ≤ y)) (by simp) hbase hb h1 h2 h3
    rw [e2] at ho
    have hgl := (Array.getElem?_eq_some_iff.1 hb).1
    exact ⟨rfl, ho, (Below.refl _ _).grown hg (by omega) (fun k hk => by cases hk; exact hbase), hg⟩
theorem gr_ofB {a w : World} (h : Below a.heap.size a w) (row : Option Nat) : a.grownBy w row := ⟨h.os, h.tape, h.output, h.size, fun k hk _ => h.block k hk⟩
set_option maxRecDepth 100000 in
set_option maxHeartbeats 8000000 in
theorem nextLayer_any (n b cnt : Nat) (f : ByteArray → Bool) (V V2 : Value) (hs L S : List ByteArray) (w : World) (hn : n ≤ 8) (hm : SM w b cnt f) (hf : ∀ s, f s = true ↔ s ∈ S) (Hh : ∀ W, w.grownBy W (some b) → Strs W V hs) (Hl : ∀ W, w.grownBy W (some b) → Strs W V2 L)
    (hh : hs.length = 3) (hL : L.length ≤ 800) (hri : ∀ r ∈ L, RowIn n r) (hrh : ∀ h ∈ hs, RowIn n h) (hcnt : cnt ≤ 100000) : Calls Tryz.prog 267 #[V, V2, .map (some b)] w fun e w' =>
    ∃ (g q N cnt' : Nat) (f' : ByteArray → Bool), e = .returned (.slice (some ⟨g, 0, none⟩) N q) ∧ N = (newsB S (prodsB hs L)).length ∧ w'.ownsRow w.heap.size 9 1 (.slice (some ⟨g, 0, none⟩) N q) N ((sortB (newsB S (prodsB hs L))).map Value.string) ∧ SM w' b cnt' f' ∧ (∀ s, f' s = true ↔ s ∈ visitAll S (prodsB hs L)) ∧ cnt' ≤ cnt + 2400 ∧ w.grownBy w' (some b) := by
  have HH := Lib.hid Hh
  have HL := Lib.hid Hl
  have Hri := Lib.hid hri
  have Hrh := Lib.hid hrh
  have hbl := hm.lt
  obtain ⟨Ah, ch, rfl, hch, hcm, _⟩ := Hh w (gr_refl _ _)
  obtain ⟨Al, cl, rfl, hcl, hclm, _⟩ := Hl w (gr_refl _ _)
  have Hm := Lib.hid hm
  have Hf0 : Hid (∀ s, f s = true ↔ s ∈ visitAll S (prodsB hs (L.take 0))) := Lib.hid (fun s => by simpa [prodsB, visitAll] using hf s)
  have Hn0 : Hid ([] = newsB S (prodsB hs (L.take 0))) := Lib.hid (by simp [newsB, prodsB, visitAll])
  have Hh3 := Lib.hid hh
  clear hm hf Hh Hl hri hrh hh
  go_enter Tryz.func267, Tryz.ntmps267
  go_wp2_with fail
  refine box1 (C := fun W => Code.wp _ _ _ _ W) ?_
  intro wb hw k1 hB0
  have hown0 : wb.ownsRow w.heap.size 9 1 (.slice (some ⟨w.heap.size, 0, none⟩) 0 0) 0 ([].map Value.string) := own_of_heap (cs := #[]) k1 (Nat.le_refl _) (by unfold maxLen; omega) rfl
  have hm1 := Hm.out.to hw
  have hg1 := gr_ofB hw (some b)
  clear k1
  go_loopw [7, 16] (fun o i wr => ∃ (k N g q cnt' : Nat) (f' : ByteArray → Bool) (X : List ByteArray), k ≤ L.length ∧ i = .int .i64 k ∧ o = .slice (some ⟨g, 0, none⟩) N q ∧ X = newsB S (prodsB hs (L.take k)) ∧ wr.ownsRow w.heap.size 9 1 (.slice (some ⟨g, 0, none⟩) N q) N (X.map Value.string) ∧ SM wr b cnt' f' ∧ (∀ s, f' s = true ↔ s ∈ visitAll S (prodsB hs (L.take k))) ∧ cnt' ≤ cnt + k * 3 ∧ N ≤ k * 3 ∧ w.grownBy wr (some b)) (fun _ i _ => L.length - (intOf i).toNat)
  case atStart => exact ⟨0, 0, _, 0, cnt, f, [], by omega, rfl, rfl, Hn0.out, hown0, hm1, Hf0.out, by omega, by omega, hg1⟩
  case round =>
    clear hown0 hm1 hg1
    obtain ⟨k, N, g, q, cnt', f', X, hk, rfl, rfl, hX, hown, hm, hf, hc, hN, hgr⟩ := hrel
    have HX := Lib.hid hX
    have Hm := Lib.hid hm
    have Hf := Lib.hid hf
    have Hown := Lib.hid hown
    clear hX hm hf hown
    by_cases hlt : k < L.length
    · have hSl := HL.out wr hgr
      obtain ⟨A', c', e', _, _, hrd⟩ := hSl
      injection e' with ea eb ec
      subst ea ec
      clear eb
      obtain ⟨ad, rfl, hC⟩ := strs_el hrd hlt
      have hC0 := hC _ (Below.refl _ _)
      have Hr := Lib.hid (Hri.out _ (List.getElem_mem hlt))
      have Hpt : Hid (prodsB hs (L.take (k + 1)) = prodsB hs (L.take k) ++ hs.map (timesB L[k])) := Lib.hid (prods_take hlt)
      obtain ⟨r, hr⟩ : ∃ r, r = L[k] := ⟨_, rfl⟩
      rw [← hr] at hC0 Hr Hpt
      have Hf00 : Hid (∀ s, f' s = true ↔ s ∈ visitAll S (prodsB hs (L.take k) ++ (hs.take 0).map (timesB r))) := Lib.hid (fun s => by simpa using Hf.out s)
      have HX0 : Hid (X = newsB S (prodsB hs (L.take k) ++ (hs.take 0).map (timesB r))) := Lib.hid (by simpa using HX.out)
      clear hC hrd hr
      go_wp2_with fail
      obtain ⟨wo, rfl⟩ : ∃ wo : World, wo = wr := ⟨_, rfl⟩
      go_loopw [7, 22] (fun o i wr => ∃ (j N' g q cnt2 : Nat) (f' : ByteArray → Bool) (X : List ByteArray), j ≤ hs.length ∧ i = .int .i64 j ∧ o = .slice (some ⟨g, 0, none⟩) N' q ∧ X = newsB S (prodsB hs (L.take k) ++ (hs.take j).map (timesB r)) ∧ wr.ownsRow w.heap.size 9 1 (.slice (some ⟨g, 0, none⟩) N' q) N' (X.map Value.string) ∧ SM wr b cnt2 f' ∧ (∀ s, f' s = true ↔ s ∈ visitAll S (prodsB hs (L.take k) ++ (hs.take j).map (timesB r))) ∧ cnt2 ≤ cnt' + j ∧ N' ≤ N + j ∧ w.grownBy wr (some b)) (fun _ i _ => hs.length - (intOf i).toNat)
      case atStart => exact ⟨0, N, g, q, cnt', f', X, by omega, rfl, rfl, HX0.out, Hown.out, Hm.out, Hf00.out, by omega, by omega, hgr⟩
      case round =>
        clear hC0 Hf00 HX0 Hown Hm Hf HX hgr
        obtain ⟨j, N', g, q, cnt2, f', X, hj, rfl, rfl, hX, hown, hm, hf, hc2, hN2, hgr⟩ := hrel
        have HX := Lib.hid hX
        have Hm := Lib.hid hm
        have Hf := Lib.hid hf
        have Hown := Lib.hid hown
        clear hX hm hf hown
        by_cases hlt2 : j < hs.length
        · have hjh : j < hs.length := hlt2
          have hj3 : j < 3 := by have := Hh3.out; omega
          have hSh := HH.out wr hgr
          obtain ⟨A', c2', e', _, _, hrd⟩ := hSh
          injection e' with ea eb ec
          subst ea ec
          clear eb
          obtain ⟨ad2, rfl, hC⟩ := strs_el hrd hjh
          have hC0 := hC _ (Below.refl _ _)
          have Hhr := Lib.hid (Hrh.out _ (List.getElem_mem hjh))
          have Hsn : Hid (prodsB hs (L.take k) ++ (hs.take (j + 1)).map (timesB r) = (prodsB hs (L.take k) ++ (hs.take j).map (timesB r)) ++ [timesB r hs[j]]) := Lib.hid (by rw [map_take_succ hjh, List.append_assoc])
          obtain ⟨h, hhj⟩ : ∃ h, h = hs[j] := ⟨_, rfl⟩
          rw [← hhj] at hC0 Hhr Hsn
          have Htm := Lib.hid (fun W => times_any r h W (by rw [Hr.out.1]; omega) (by rw [Hhr.out.1]; omega) (row_hin Hr.out.1 Hhr.out))
          have Hti := Lib.hid (times_in Hr.out Hhr.out)
          obtain ⟨x, hx⟩ : ∃ x, x = timesB r h := ⟨_, rfl⟩
          simp only [← hx] at Htm Hti Hsn
          clear hC hrd hhj hx hjh
          go_wp2_with fail
          refine (Htm.out _).mono ?_; rintro e w5 ⟨rfl, hb5⟩
          have hxs : x.size ≤ maxLen := by rw [Hti.out.1]; unfold maxLen; omega
          have hm5 := Hm.out.to hb5
          have ho5 := own_to Hown.out hb5
          have hg5 := gr_below hgr hb5
          have hlk := hm5.look 197 Tryz.underlying197 x hxs
          have Hm5 := Lib.hid hm5
          have Hxs := Lib.hid hxs
          have Ho5 := Lib.hid ho5
          clear hm5 hxs ho5
          cases hb : f' x
          · have Hnin : Hid (x ∉ visitAll S (prodsB hs (L.take k) ++ (hs.take j).map (timesB r))) := Lib.hid (fun h => by rw [(Hf.out x).2 h] at hb; cases hb)
            have HX2 : Hid (X ++ [x] = newsB S (prodsB hs (L.take k) ++ (hs.take (j + 1)).map (timesB r))) := Lib.hid (by rw [Hsn.out, news_snoc, if_neg Hnin.out, HX.out])
            rw [hb] at hlk
            go_wp2_with fail
            refine upon_insS Tryz.underlying197 Hm5.out (by omega) x Hxs.out ?_
            intro w6 hm6 hg6
            have ho6 := Ho5.out.kept hg6 (own_neG Ho5.out (.inl hbl))
            have hgr6 := gr_comp hg5 hg6
            have Hm6 := Lib.hid hm6
            have hz6 : w.heap.size ≤ w6.heap.size := hgr6.size
            clear hm6 hg6 hlk
            go_wp2_with (at_builtin; go_must (refine wpList_app _ rfl _ _ _ rfl w.heap.size 9 _ 1 16 Tryz.underlying22 info_str rfl (by omega) ho6 [.string x] rfl rfl rfl (one_mem rfl) (by omega) (by omega) hz6 ?_); intro v7 w7 hown7 hb7 hg7 _)
            obtain ⟨A7, q7, e7, _⟩ := sl_of_own hown7
            subst e7
            obtain ⟨g7, hA7, _⟩ := own_ptr hown7 (by omega)
            subst hA7
            have hm7 := Hm6.out.kept hg7 ((own_neG (G := b) ho6 (.inl hbl)).elim (fun h => by rw [h]; simp) (fun h e => h e.symm))
            rw [str_snoc rfl] at hown7
            refine ⟨⟨j + 1, N' + 1, g7, q7, _, _, X ++ [x], by omega, by go_num, rfl, HX2.out, hown7, hm7, fun s => ?_, by omega, by omega, gr_new hgr6 hb7⟩, by simp [intOf]; omega⟩
            rw [Hsn.out]
            exact updF_va Hf.out s
          · have Hin : Hid (x ∈ visitAll S (prodsB hs (L.take k) ++ (hs.take j).map (timesB r))) := Lib.hid ((Hf.out x).1 hb)
            have HX2 : Hid (X = newsB S (prodsB hs (L.take k) ++ (hs.take (j + 1)).map (timesB r))) := Lib.hid (by rw [Hsn.out, news_snoc, if_pos Hin.out, HX.out])
            rw [hb] at hlk
            go_wp2_with fail
            refine ⟨⟨j + 1, N', g, q, cnt2, f', X, by omega, by go_num, rfl, HX2.out, Ho5.out, Hm5.out, fun s => ?_, by omega, by omega, hg5⟩, by simp [intOf]; omega⟩
            rw [Hsn.out, va_snoc_in Hin.out]
            exact Hf.out s
        · obtain rfl : j = hs.length := by omega
          have et : hs.take hs.length = hs := List.take_length
          have h3 : hs.length = 3 := Hh3.out
          have Hf2 : Hid (∀ s, f' s = true ↔ s ∈ visitAll S (prodsB hs (L.take (k + 1)))) := Lib.hid (fun s => by have := Hf.out s; rw [et] at this; rw [Hpt.out]; exact this)
          have HX2 : Hid (X = newsB S (prodsB hs (L.take (k + 1)))) := Lib.hid (by have := HX.out; rw [et] at this; rw [Hpt.out]; exact this)
          clear et h3
          go_wp2_with fail
          exact ⟨⟨k + 1, N', g, q, cnt2, f', X, by omega, by go_num, rfl, HX2.out, Hown.out, Hm.out, Hf2.out, by have := Hh3.out; omega, by have := Hh3.out; omega, hgr⟩, by simp [intOf]; omega⟩
    · obtain rfl : k = L.length := by omega
      have hXf := HX.out
      rw [List.take_length] at hXf
      have Hff : Hid (∀ s, f' s = true ↔ s ∈ visitAll S (prodsB hs L)) := Lib.hid (fun s => by have := Hf.out s; rw [List.take_length] at this; exact this)
      have HXf := Lib.hid hXf
      have hXl : X.length = N := by have := Hown.out.1; simpa using this
      have HXl := Lib.hid hXl
      have Hso := Lib.hid (sortS_gr g N q w.heap.size X wr Hown.out (by omega))
      clear hXf hXl
      go_wp2_with fail
      refine Hso.out.mono ?_; rintro e w8 ⟨rfl, hown8, hb8, hg8⟩
      have Hown8 := Lib.hid hown8
      have hgb : w.heap.size ≤ g := (World.ownsRow.lt Hown.out g rfl).1
      have hm8 := Hm.out.kept hg8 (fun e => by injection e with e; omega)
      have Hm8 := Lib.hid hm8
      clear hown8 hm8
      go_wp2_with fail
      go_ret
      exact ⟨g, q, N, cnt', f', rfl, by rw [← HXf.out, HXl.out], by rw [← HXf.out]; exact Hown8.out, Hm8.out, Hff.out, by omega, gr_new hgr hb8⟩
end Go.Proofs.YtjiiflpoiaaccaaGreat
