/- Contracts: the text of a plan, both sides. -/
import Derived.Test.YtofpjbdelmmclaaGreatDoorPk3
import Derived.Test.YtofpjbdelmmclaaGreatDoorPk5
import Derived.Lib.Join
import Derived.Test.YtofpjbdelmmclaaGreatDoorPk4
namespace Go.Proofs.YtofpjbdelmmclaaGreatDoor
open Go Go.RowKit
set_option linter.unusedVariables false
set_option linter.unusedSimpArgs false

def semi : ByteArray := ⟨#[59, 32]⟩
def wordI (x : It) : ByteArray := x.name ++ ⟨#[32]⟩ ++ numT x.rows
def wordOf (xs : List It) (z : Int) : ByteArray := match xs[z.toNat]? with
  | some x => wordI x
  | none => ⟨#[]⟩
def jn : List ByteArray → ByteArray
  | [] => ⟨#[]⟩
  | x :: r => r.foldl (fun s y => s ++ semi ++ y) x
theorem empty_app (y : ByteArray) : (⟨#[]⟩ : ByteArray) ++ y = y := by apply ByteArray.ext; simp
theorem jn_first (y : ByteArray) : jn ([] ++ [y]) = y := rfl
theorem jn_snoc {l : List ByteArray} (h : 0 < l.length) (y : ByteArray) : jn (l ++ [y]) = jn l ++ semi ++ y := by
  cases l with
  | nil => simp at h
  | cons x r => simp [jn, List.foldl_append]
def ws (xs : List It) (ch : List Int) (k : Nat) : List ByteArray := (ch.take k).map (wordOf xs)
theorem ws_zero (xs : List It) (ch : List Int) : ws xs ch 0 = [] := rfl
theorem ws_len {xs : List It} {ch : List Int} {k : Nat} (h : k ≤ ch.length) : (ws xs ch k).length = k := by unfold ws; simp; omega
theorem ws_succ {xs : List It} {ch : List Int} {k m : Nat} (h : k < ch.length) (hm : ch[k] = (m : Int)) (hx : m < xs.length) : ws xs ch (k + 1) = ws xs ch k ++ [wordI xs[m]] := by
  unfold ws
  rw [List.take_succ_eq_append_getElem h, List.map_append, hm]
  simp [wordOf, hx]
theorem jn_list (r : List ByteArray) : ∀ x : ByteArray, (r.foldl (fun s y => s ++ semi ++ y) x).data.toList = x.data.toList ++ Lib.joinTail semi.data.toList (r.map (·.data.toList)) := by
  induction r with
  | nil => intro x; simp [Lib.joinTail]
  | cons y r ih =>
    intro x
    rw [List.foldl_cons, ih]
    simp [Lib.joinTail]
theorem join_jn (l : List ByteArray) : (⟨(Lib.join (l.map (·.data.toList)) semi.data.toList).toArray⟩ : ByteArray) = jn l := by
  cases l with
  | nil => rfl
  | cons x r =>
    apply ByteArray.ext
    apply Array.toList_inj.1
    rw [List.map_cons, Lib.join_cons]
    exact (jn_list r x).symm
theorem wordI_size {x : It} (h : itB x = true) : (wordI x).size ≤ 25 ∧ x.name.size ≤ 10 ∧ (numT x.rows).size ≤ 14 := by
  have hb := itB_bd h
  have hn : x.name.size ≤ 10 := by
    simp [itB, wordB] at h
    have := h.1.1.1.2.2
    simpa using this
  have hz : (numT x.rows).size ≤ 14 := numT_size (by omega) (by omega)
  refine ⟨?_, hn, hz⟩
  unfold wordI
  rw [ByteArray.size_append, ByteArray.size_append]
  have : (⟨#[32]⟩ : ByteArray).size = 1 := rfl
  omega
theorem jn_size (xs : List It) (ch : List Int) (a : Int) (hx : itemsB xs = true) (hc : choiceB a xs ch = true) : ∀ k, k ≤ ch.length → (jn (ws xs ch k)).size ≤ 27 * k := by
  intro k
  induction k with
  | zero => intro _; exact Nat.le_refl _
  | succ k ih =>
    intro h
    have ih' := ih (by omega)
    obtain ⟨m, hm, hmx⟩ := choice_in hc (i := k) (by omega)
    have hw := (wordI_size (items_good hx hmx)).1
    rw [ws_succ (by omega) hm hmx]
    rcases Nat.eq_zero_or_pos k with h0 | h0
    · subst h0
      rw [ws_zero, jn_first]; omega
    · rw [jn_snoc (by rw [ws_len (by omega)]; exact h0), ByteArray.size_append, ByteArray.size_append]
      have : semi.size = 2 := rfl
      omega
def planOk (a b c d : Int) (xs : List It) (ch : List Int) : Bool := choiceOk a b c d xs ch && decide (timeS b d xs ch ≤ c)
def planT (a b c d : Int) (xs : List It) (ch : List Int) : ByteArray := if planOk a b c d xs ch then jn (ws xs ch ch.length) ++ ⟨#[58, 32]⟩ ++ numT (timeS b d xs ch) else ⟨#[]⟩
theorem planOk_no1 {a b c d : Int} {xs : List It} {ch : List Int} (h : choiceOk a b c d xs ch = false) : planOk a b c d xs ch = false := by unfold planOk; rw [h]; rfl
theorem planOk_no2 {a b c d : Int} {xs : List It} {ch : List Int} (h : ¬ timeS b d xs ch ≤ c) : planOk a b c d xs ch = false := by unfold planOk; rw [decide_eq_false h, Bool.and_false]
theorem planOk_yes {a b c d : Int} {xs : List It} {ch : List Int} (h : choiceOk a b c d xs ch = true) (h' : timeS b d xs ch ≤ c) : planOk a b c d xs ch = true := by unfold planOk; rw [h, decide_eq_true h']; rfl
theorem planT_no {a b c d : Int} {xs : List It} {ch : List Int} (h : planOk a b c d xs ch = false) : planT a b c d xs ch = ⟨#[]⟩ := by unfold planT; rw [h]; rfl
theorem planT_yes {a b c d : Int} {xs : List It} {ch : List Int} (h : planOk a b c d xs ch = true) : planT a b c d xs ch = jn (ws xs ch ch.length) ++ ⟨#[58, 32]⟩ ++ numT (timeS b d xs ch) := by unfold planT; rw [h]; rfl
theorem time_pos {a b c d : Int} {xs : List It} {ch : List Int} (he : evB a b c d = true) (hx : itemsB xs = true) (hc : choiceB a xs ch = true) : 0 ≤ timeS b d xs ch := by
  have h1 := sumR_bd he hx hc ch.length (Nat.le_refl _)
  rw [List.take_length] at h1
  obtain ⟨_, _, _, _, _, _, hd0, hd1⟩ := evB_bd he
  have h2 := gaps_bd hd0 hd1 (choice_len hx hc)
  rw [timeS_eq]; omega
theorem info_strN : (Tryz.prog.info? 9).map (fun i => (i.zero, i.size, i.bytes)) = some (some (.string ⟨#[]⟩), 1, 16) := by kernel_rfl
/-- 'append(v, u)' at a step of a region that draws its order, u in a block of its own. -/
theorem step_app_one {P : Program} (w : World) {ops : Array Oper} {o : Oper} {a : Act} {K : Act → World → Prop} {Q : Exit → Act → World → Prop} {E : Prop} (hgd : o.guard = none) (s x : Operand) (t : TypeId)
    (ho : o.op = .call { callee := .builtin .append, args := #[s, x], argTypes := #[t, t] })
    (base : Nat) (e : TypeId) (z : Value) (bytes : Nat) (ht : P.underlying t = some (.slice e)) (hinfo : (P.info? e).map (fun i => (i.zero, i.size, i.bytes)) = some (some z, 1, bytes))
    (hzs : z.cells.size = 1) {v : Value} {n : Nat} {xs : List Value} (hown : w.ownsRow base e 1 v n xs) (hs : a.eval s = v)
    (u : Value) (H : Nat) (hx : a.eval x = .slice (some ⟨H, 0, none⟩) 1 1) (hH : w.heap[H]? = some (.cells #[u] e (0, 0))) (h1 : u.oneCell' = true) (hby : bytes ≤ 1024) (hn : n ≤ 100000000) (hbase : base ≤ w.heap.size)
    (h : ∀ v' w', w'.ownsRow base e 1 v' (n + 1) (xs ++ [u]) → Below base w w' → K (a.put o.dst v') w') :
    if Region.wanted o (yielded ops a.tmps) = true then Oper.wp P o a w K Q else E := by
  have hw : Region.wanted o (yielded ops a.tmps) = true := by simp [Region.wanted, hgd]
  rw [if_pos hw]
  obtain ⟨i0, hi, hz, hsi, hbi⟩ := info_parts hinfo
  have hcell : ∀ j u', [u][j]? = some u' → w.cell? ((⟨H, 0, none⟩ : Addr).add j) = some u' := by
    intro j u' hu
    have hj : j = 0 := by
      have := (List.getElem?_eq_some_iff.1 hu).1
      simpa using this
    subst hj
    rw [add_zero', heap_cell hH]
    simpa using hu
  obtain ⟨v', w', hrun, h2, h3, _, h5⟩ := run_append_own_at (P := P) w base t o.type e i0 z 1 bytes ht hi hz hsi hbi hzs (by omega) v n xs hown ⟨H, 0, none⟩ 1 1 [u] rfl hcell (one_mem h1)
    (by unfold maxLen; omega) (Nat.le_trans (Nat.mul_le_mul_left _ hby) (by omega)) hbase
  unfold Oper.wp execOp
  simp only [ho, resolve, invoke, builtin, Sem.run_bind, Sem.run_pure, Result.andThen_ok, List.map_toArray, List.map_cons, List.map_nil, hs, hx, hrun]
  exact h v' w' h2 ((Below.refl _ _).grown h3 hbase (fun k hk => (hown.lt k hk).1))
theorem joined_any (v : Value) (n base : Nat) (l : List ByteArray) (w : World) (h : w.ownsRow base 9 1 v n (l.map Value.string)) (hv : v ≠ .slice none 0 0 ∨ True) (hlen : (jn l).size ≤ 1000000) (hn : n ≤ 1000000) : Calls Tryz.prog 62 #[v, .string semi] w fun e w' => e = .returned (.string (jn l)) ∧ Below w.heap.size w w' := by
  have hl : l.length = n := by have := h.1; simpa using this
  subst hl
  have hj := join_jn l
  rcases h.2 with ⟨rfl, h0⟩ | ⟨g, cap, cur, rfl, hb, hh, hnc, hcm, _⟩
  · obtain rfl := List.eq_nil_of_length_eq_zero h0
    have hc := Tryz.strings_Join_none none 0 semi w
    unfold semi at hc ⊢
    go_enter Tryz.func62, Tryz.ntmps62
    go_wp2_with fail
    refine hc.mono ?_; rintro e w' ⟨rfl, rfl⟩
    go_wp2_with fail
    go_ret
    exact ⟨rfl, Below.refl _ _⟩
  · rcases Nat.eq_zero_or_pos l.length with h0 | h0
    · obtain rfl := List.eq_nil_of_length_eq_zero h0
      have hc := Tryz.strings_Join_none (some ⟨g, 0, none⟩) cap semi w
      unfold semi at hc ⊢
      go_enter Tryz.func62, Tryz.ntmps62
      go_wp2_with fail
      refine hc.mono ?_; rintro e w' ⟨rfl, rfl⟩
      go_wp2_with fail
      go_ret
      exact ⟨rfl, Below.refl _ _⟩
    · have hsz : (Lib.join (l.map (·.data.toList)) semi.data.toList).length ≤ 140737488355328 := by
        have e : (Lib.join (l.map (·.data.toList)) semi.data.toList).length = (jn l).size := by
          rw [← hj]; show _ = (Lib.join (l.map (·.data.toList)) semi.data.toList).toArray.size; simp
        omega
      have hc := Tryz.strings_Join g 0 cap l semi w (fun j x hx => by
        have hjl := (List.getElem?_eq_some_iff.1 hx).1
        have h2 := h.cellAt j (by simpa using hjl)
        rw [Nat.zero_add]
        rw [h2, List.getElem?_map, hx]; rfl) (h.lt g rfl).2 (by omega) hnc hsz
      rw [hj] at hc
      have Hc := Lib.hid hc
      clear hc
      unfold semi at Hc ⊢
      go_enter Tryz.func62, Tryz.ntmps62
      go_wp2_with fail
      refine Hc.out.mono ?_; rintro e w' ⟨rfl, hb'⟩
      go_wp2_with fail
      go_ret
      exact ⟨rfl, hb'⟩
end Go.Proofs.YtofpjbdelmmclaaGreatDoor

/- Contracts: PlanText, both sides. -/
namespace Go.Proofs.YtofpjbdelmmclaaGreatDoor
open Go Go.RowKit
set_option linter.unusedVariables false
set_option linter.unusedSimpArgs false

set_option maxRecDepth 10000 in
set_option maxHeartbeats 2000000 in
theorem implPlanText_any (a b c d : Int) (v u : Value) (xs : List It) (ch : List Int) (w : World) (hv : Items w v xs) (hu : Ints w u ch) (ht : Tab10 w) :
    Calls Tryz.prog 19 #[.agg #[.int .i64 a, .int .i64 b, .int .i64 c, .int .i64 d], v, u] w fun e w' => e = .returned (.tuple #[.string (planT a b c d xs ch), .bool (planOk a b c d xs ch)]) ∧ Below w.heap.size w w' := by
  have HV := Lib.hid hv
  have HU := Lib.hid hu
  have Ht := Lib.hid ht
  obtain ⟨⟨A, c1, rfl, h1, h2, hr⟩, hg⟩ := hv
  obtain ⟨A', c2, rfl, h1', h2', hr'⟩ := hu
  unfold maxLen at h2 h2'
  obtain ⟨T, hT⟩ : ∃ T, T = planT a b c d xs ch := ⟨_, rfl⟩
  obtain ⟨k0, hk0⟩ : ∃ k, k = planOk a b c d xs ch := ⟨_, rfl⟩
  rw [← hT, ← hk0]
  have HT := Lib.hid hT
  have Hk := Lib.hid hk0
  clear ht hg hT hk0
  go_enter Tryz.func19, Tryz.ntmps19
  go_wp2_with fail
  refine box1 (C := fun W => Calls _ _ _ W _) ?_
  intro wb hw k1 hB0
  have R1 := boxRule k1
  clear k1
  have htm := implTimeIn_any a b c d _ _ xs ch wb (HV.out.to hw) (HU.out.to hw)
  by_cases hok : choiceOk a b c d xs ch = true
  case neg =>
    have hok' : choiceOk a b c d xs ch = false := by simpa using hok
    have Hno := Lib.hid (planOk_no1 hok')
    rw [timeInN_no hok', hok'] at htm
    have Htm := Lib.hid htm
    clear htm hok hok'
    refine Htm.out.mono ?_; rintro e w1 ⟨rfl, hb1⟩
    go_wp2_with fail
    go_ret2
    exact ⟨by rw [HT.out, Hk.out, planT_no Hno.out, Hno.out]; rfl, bw_to hw hb1⟩
  case pos =>
    rw [timeInN_yes hok, hok] at htm
    obtain ⟨he, hx, hc⟩ := choiceOk_parts hok
    have He := Lib.hid he
    have Hx := Lib.hid hx
    have Hc := Lib.hid hc
    have hlen := choice_len hx hc
    have hbd := evB_bd he
    have htp := time_pos he hx hc
    obtain ⟨t, hte⟩ : ∃ t, t = timeS b d xs ch := ⟨_, rfl⟩
    rw [← hte] at htm htp
    have Htm := Lib.hid htm
    have Hok := Lib.hid hok
    have Hte := Lib.hid hte
    clear htm hok he hx hc hte
    refine Htm.out.mono ?_; rintro e w1 ⟨rfl, hb1⟩
    by_cases htc : t ≤ c
    case neg =>
      have Hno := Lib.hid (planOk_no2 (a := a) (b := b) (c := c) (d := d) (xs := xs) (ch := ch) (by rw [← Hte.out]; exact htc))
      have htc' : c < t := by omega
      clear htc
      go_wp2_with fail
      go_ret2
      exact ⟨by rw [HT.out, Hk.out, planT_no Hno.out, Hno.out]; rfl, bw_to hw hb1⟩
    case pos =>
      have Hyes := Lib.hid (planOk_yes Hok.out (by rw [← Hte.out]; exact htc))
      have hze : (numT t).size ≤ 14 := numT_size (by omega) (by omega)
      have htc2 : ¬ c < t := by omega
      have Hjs := Lib.hid (jn_size xs ch a Hx.out Hc.out)
      go_wp2_with fail
      go_loopw [10, 31] (fun z i wr => ∃ k : Nat, k ≤ ch.length ∧ i = .int .i64 k ∧ Below wb.heap.size wb wr ∧ wr.ownsRow wb.heap.size 9 1 z k ((ws xs ch k).map Value.string)) (fun _ i _ => ch.length - (intOf i).toNat)
      case atStart => exact ⟨0, by omega, rfl, bw_al hb1 _, own_of_heap (cs := #[]) (n := 0) (heap_new w1 _) hb1.size (by unfold maxLen; omega) rfl⟩
      case round =>
        obtain ⟨k, hk, rfl, hB, hown⟩ := hrel
        have Hown := Lib.hid hown
        by_cases hlt : k < ch.length
        · obtain ⟨m, hm, hmx⟩ := choice_in Hc.out hlt
          have Hws := Lib.hid (ws_succ (xs := xs) hlt hm hmx)
          have hsz := wordI_size (items_good Hx.out hmx)
          have hbi := itB_bd (items_good Hx.out hmx)
          obtain ⟨ad', rfl, hC'⟩ := ints_el hr' hlt
          obtain ⟨ad, rfl, hC⟩ := items_el hr hmx
          have hmi : (m : Int) < xs.length := by omega
          have hm0 : (0 : Int) ≤ (m : Int) := by omega
          obtain ⟨x, ex⟩ : ∃ x, x = xs[m] := ⟨_, rfl⟩
          rw [← ex] at hC Hws hsz hbi
          have c0 := hC' wr (bw_to hw hB)
          rw [hm] at c0
          have CB0 := fun w' (hb : Below wb.heap.size wb w') => (hC w' (bw_to hw hb)).1
          have CB2 := fun w' (hb : Below wb.heap.size wb w') => (hC w' (bw_to hw hb)).2.2.1
          have o1 : ¬ 9223372036854775807 < x.name.size + 1 := by omega
          have o2 : ¬ 9223372036854775807 < x.name.size + 1 + (numT x.rows).size := by omega
          have hBd : Below wb.heap.size wb wr.drew := Below.drew hB
          have Hbi := Lib.hid hbi
          clear hm ex hsz hbi hown R1 hC hC'
          go_wp2_with fail
          go_region_held3 (fun w' => Below wb.heap.size wb w') (first | assumption | exact bw_to (by assumption) hb' | exact bw_al (by assumption) _ | exact Below.trans (by assumption) hb2)
            (first | (refine step_app_one _ (by rfl) _ _ _ (by rfl) wb.heap.size 9 _ 16 Tryz.underlying24 info_strN rfl (own_to hown' (bw_al (Below.refl _ _) _)) (by rfl) _ _ (by rfl) (heap_new _ _) rfl (by omega) (by omega) (Nat.le_trans hz' (by simp)) ?_; intro v2 w2 hown2 hb2) | (go_at_call 61; refine (decimal_any x.rows _ (by have := Hbi.out; omega) (by have := Hbi.out; omega) (Ht.out.to (bw_to hw hBd))).mono ?_; rintro e w' ⟨rfl, hb'⟩; (have hown' := own_to (World.ownsRow.drew Hown.out) hb'); (have hz' := (bw_to hBd hb').size)))
          go_wp2_with fail
          refine ⟨⟨k + 1, by omega, by go_num, by assumption, ?_⟩, by simp [intOf]; omega⟩
          rw [Hws.out, List.map_append]
          exact hown2
        · obtain rfl : k = ch.length := by omega
          have hjs := Hjs.out ch.length (Nat.le_refl _)
          obtain ⟨l, hl⟩ : ∃ l, l = ws xs ch ch.length := ⟨_, rfl⟩
          rw [← hl] at hown hjs
          have Hl := Lib.hid hl
          have hjo := joined_any _ _ _ l wr hown (.inr trivial) (by omega) (by omega)
          unfold semi at hjo
          have Hjo := Lib.hid hjo
          have HB := Lib.hid hB
          have o1 : ¬ 9223372036854775807 < (jn l).size + 2 := by omega
          have o2 : ¬ 9223372036854775807 < (jn l).size + 2 + (numT t).size := by omega
          clear hown hjo hl hB hr hr'
          go_wp2_with fail
          refine Hjo.out.mono ?_; rintro e w4 ⟨rfl, hb4⟩
          go_wp2_with fail
          refine (decimal_any t _ (by omega) (by omega) (Ht.out.to (bw_to hw (bw_to HB.out hb4)))).mono ?_; rintro e w5 ⟨rfl, hb5⟩
          go_wp2_with fail
          go_ret2
          exact ⟨by rw [HT.out, Hk.out, planT_yes Hyes.out, Hyes.out, ← Hl.out, ← Hte.out]; rfl, bw_to hw (bw_to (bw_to HB.out hb4) hb5)⟩
end Go.Proofs.YtofpjbdelmmclaaGreatDoor

/- Contract: the reference's PlanText. -/
namespace Go.Proofs.YtofpjbdelmmclaaGreatDoor
open Go Go.RowKit
set_option linter.unusedVariables false
set_option linter.unusedSimpArgs false

theorem items_ownN {w : World} {base : Nat} {e : TypeId} {v : Value} {xs : List It} (h : w.ownsRow base e 4 v xs.length (xs.flatMap It.cells)) (hg : ∀ x ∈ xs, x.name.size ≤ maxLen) : Items w v xs := ⟨sl_of_own h, hg⟩
theorem l30Choice_is {a b c d : Int} {v u : Value} {xs : List It} {ch : List Int} {w : World} {r : Bool} (hr : choiceOk a b c d xs ch = r) (hv : Items w v xs) (hu : Ints w u ch) :
    Calls Tryz.prog 59 #[.agg #[.int .i64 a, .int .i64 b, .int .i64 c, .int .i64 d], v, u] w fun e w' => e = .returned (.bool r) ∧ Below w.heap.size w w' := by subst hr; exact l30Choice_any _ _ _ _ _ _ _ _ _ hv hu
set_option maxRecDepth 10000 in
set_option maxHeartbeats 2000000 in
theorem specPlanText_any (a b c d : Int) (v u : Value) (xs : List It) (ch : List Int) (w : World) (hv : Items w v xs) (hu : Ints w u ch) :
    Calls Tryz.prog 20 #[.agg #[.int .i64 a, .int .i64 b, .int .i64 c, .int .i64 d], v, u] w fun e w' => e = .returned (.tuple #[.string (planT a b c d xs ch), .bool (planOk a b c d xs ch)]) ∧ Below w.heap.size w w' := by
  have HV := Lib.hid hv
  have HU := Lib.hid hu
  obtain ⟨⟨A, c1, rfl, h1, h2, hr⟩, hg⟩ := hv
  obtain ⟨A', c2, rfl, h1', h2', hr'⟩ := hu
  unfold maxLen at h2 h2'
  obtain ⟨T, hT⟩ : ∃ T, T = planT a b c d xs ch := ⟨_, rfl⟩
  obtain ⟨k0, hk0⟩ : ∃ k, k = planOk a b c d xs ch := ⟨_, rfl⟩
  rw [← hT, ← hk0]
  have HT := Lib.hid hT
  have Hk := Lib.hid hk0
  clear hg hT hk0
  go_enter Tryz.func20, Tryz.ntmps20
  go_wp2_with fail
  refine box1 (C := fun W => Code.wp _ _ _ _ W) ?_
  intro wb hw k1 hB0
  have R1 := boxRule k1
  clear k1
  have R3 : ∀ (x : Aft wb) (i : Nat), x.w.cell? ⟨w.heap.size, i, none⟩ = #[.int .i64 a, .int .i64 b, .int .i64 c, .int .i64 d][i]? := fun x i => R1 x.w i x.h
  have HR1 := Lib.hid R1
  clear R1
  cases hok : choiceOk a b c d xs ch
  case false =>
    have Hno := Lib.hid (planOk_no1 hok)
    have Hok := Lib.hid hok
    clear hok
    refine wp_region_aft (wb := wb) (by kernel_rfl) (by kernel_rfl) hB0 ?_
    repeat (go_big_quiet_step ((first | (go_at_call 59; exact calls_aft fun w' hb' => l30Choice_is Hok.out (HV.out.to (bw_to hw hb')) (HU.out.to (bw_to hw hb'))))))
    refine wpQuiet_nil ?_
    rintro _ ⟨⟨w3, hB3⟩, rfl⟩
    go_wp2_with fail
    go_ret2
    exact ⟨by rw [HT.out, Hk.out, planT_no Hno.out, Hno.out]; rfl, bw_to hw hB3⟩
  case true =>
    obtain ⟨he, hx, hc⟩ := choiceOk_parts hok
    have He := Lib.hid he
    have Hx := Lib.hid hx
    have Hc := Lib.hid hc
    have hlen := choice_len hx hc
    have hbd := evB_bd he
    have htp := time_pos he hx hc
    have htime := fun w' (h : Below wb.heap.size wb w') => l30Time_any a b c d _ _ xs ch w' (HV.out.to (bw_to hw h)) (HU.out.to (bw_to hw h)) he hx hc
    obtain ⟨t, hte⟩ : ∃ t, t = timeS b d xs ch := ⟨_, rfl⟩
    rw [← hte] at htp
    simp only [← hte] at htime
    have Htime := Lib.hid htime
    have Hok := Lib.hid hok
    have Hte := Lib.hid hte
    clear htime hok he hx hc hte
    refine wp_region_aft (wb := wb) (by kernel_rfl) (by kernel_rfl) hB0 ?_
    repeat (go_big_quiet_step ((first | (go_at_call 59; exact calls_aft fun w' hb' => l30Choice_is Hok.out (HV.out.to (bw_to hw hb')) (HU.out.to (bw_to hw hb'))) | (go_at_call 60; exact calls_aft fun w' hb' => Htime.out w' hb'))))
    refine wpQuiet_nil ?_
    rintro _ ⟨⟨w3, hB3⟩, rfl⟩
    have R1 := HR1.out
    clear R3
    by_cases htc : t ≤ c
    case neg =>
      have Hno := Lib.hid (planOk_no2 (a := a) (b := b) (c := c) (d := d) (xs := xs) (ch := ch) (by rw [← Hte.out]; exact htc))
      have htc' : c < t := by omega
      clear htc
      go_wp2_with fail
      go_ret2
      exact ⟨by rw [HT.out, Hk.out, planT_no Hno.out, Hno.out]; rfl, bw_to hw hB3⟩
    case pos =>
      have Hyes := Lib.hid (planOk_yes Hok.out (by rw [← Hte.out]; exact htc))
      have hze : (numT t).size ≤ 14 := numT_size (by omega) (by omega)
      have htc2 : ¬ c < t := by omega
      have Hjs := Lib.hid (jn_size xs ch a Hx.out Hc.out)
      go_wp2_with fail
      go_loopw [8, 27] (fun z i wr => ∃ (k : Nat) (s : ByteArray), k ≤ ch.length ∧ i = .int .i64 k ∧ z = .string s ∧ s = jn (ws xs ch k) ∧ Below wb.heap.size wb wr) (fun _ i _ => ch.length - (intOf i).toNat)
      case atStart => exact ⟨0, _, by omega, rfl, rfl, rfl, hB3⟩
      case round =>
        obtain ⟨k, s, hk, rfl, rfl, hs, hB⟩ := hrel
        have hss := Hjs.out k hk
        rw [← hs] at hss
        have Hs := Lib.hid hs
        have HB := Lib.hid hB
        clear hs
        by_cases hlt : k < ch.length
        · obtain ⟨m, hm, hmx⟩ := choice_in Hc.out hlt
          have Hws := Lib.hid (ws_succ (xs := xs) hlt hm hmx)
          have hsz := wordI_size (items_good Hx.out hmx)
          have hbi := itB_bd (items_good Hx.out hmx)
          obtain ⟨ad', rfl, hC'⟩ := ints_el hr' hlt
          obtain ⟨ad, rfl, hC⟩ := items_el hr hmx
          have hmi : (m : Int) < xs.length := by omega
          have hm0 : (0 : Int) ≤ (m : Int) := by omega
          obtain ⟨x, ex⟩ : ∃ x, x = xs[m] := ⟨_, rfl⟩
          rw [← ex] at hC Hws hsz hbi
          have c0 := hC' wr (bw_to hw hB)
          rw [hm] at c0
          have CB0 := fun (y : Aft wr) => (hC y.w (bw_to hw (bw_to hB y.h))).1
          have CB2 := fun (y : Aft wr) => (hC y.w (bw_to hw (bw_to hB y.h))).2.2.1
          have o1 : ¬ 9223372036854775807 < x.name.size + 1 := by omega
          have o2 : ¬ 9223372036854775807 < x.name.size + 1 + (numT x.rows).size := by omega
          have o3 : ¬ 9223372036854775807 < s.size + (x.name.size + 1 + (numT x.rows).size) := by omega
          have o4 : ¬ 9223372036854775807 < s.size + 2 + (x.name.size + 1 + (numT x.rows).size) := by omega
          have o5 : s.size + 2 ≤ 9223372036854775807 := by omega
          have hst := Below.refl wr.heap.size wr
          have Hbi := Lib.hid hbi
          have hlw := ws_len (xs := xs) hk
          have Hlw := Lib.hid hlw
          clear hm ex hbi R1 hC hC' hlw
          by_cases hk0 : 0 < k
          · have Hsn := Lib.hid (jn_snoc (l := ws xs ch k) (by rw [Hlw.out]; exact hk0) (wordI x))
            have hd : (0 : Int) < (k : Int) := by omega
            go_wp2_with fail
            refine wp_region_aft (wb := wr) (by kernel_rfl) (by kernel_rfl) hst ?_
            repeat (go_big_quiet_step ((first | (go_at_call 63; exact calls_aft fun w' hb' => l1Num_int _ w' (by have := Hbi.out; omega) (by have := Hbi.out; omega)))))
            refine wpQuiet_nil ?_
            rintro _ ⟨⟨w4, hB4⟩, rfl⟩
            go_wp2_with fail
            refine ⟨⟨k + 1, _, by omega, by go_num, rfl, ?_, bw_to HB.out hB4⟩, by simp [intOf]; omega⟩
            rw [Hws.out, Hsn.out, ← Hs.out]; rfl
          · obtain rfl : k = 0 := by omega
            rw [add_zero'] at c0
            have hs0 : s = ⟨#[]⟩ := Hs.out
            have Hs0 := Lib.hid hs0
            clear hs0
            go_wp2_with fail
            refine wp_region_aft (wb := wr) (by kernel_rfl) (by kernel_rfl) hst ?_
            repeat (go_big_quiet_step ((first | (go_at_call 63; exact calls_aft fun w' hb' => l1Num_int _ w' (by have := Hbi.out; omega) (by have := Hbi.out; omega)))))
            refine wpQuiet_nil ?_
            rintro _ ⟨⟨w4, hB4⟩, rfl⟩
            go_wp2_with fail
            refine ⟨⟨1, _, by omega, by go_num, rfl, ?_, bw_to HB.out hB4⟩, by simp [intOf]; omega⟩
            rw [Hws.out, ws_zero, jn_first, Hs0.out, empty_app]; rfl
        · obtain rfl : k = ch.length := by omega
          have o1 : ¬ 9223372036854775807 < s.size + 2 := by omega
          have o2 : ¬ 9223372036854775807 < s.size + 2 + (numT t).size := by omega
          clear hr hr'
          go_wp2_with fail
          refine (Htime.out _ HB.out).mono ?_; rintro e w4 ⟨rfl, hb4⟩
          go_wp2_with fail
          refine (l1Num_int t _ (by omega) (by omega)).mono ?_; rintro e w5 ⟨rfl, hb5⟩
          go_wp2_with fail
          go_ret2
          exact ⟨by rw [HT.out, Hk.out, planT_yes Hyes.out, Hyes.out, ← Hs.out, ← Hte.out]; rfl, bw_to hw (bw_to (bw_to HB.out hb4) hb5)⟩
end Go.Proofs.YtofpjbdelmmclaaGreatDoor
