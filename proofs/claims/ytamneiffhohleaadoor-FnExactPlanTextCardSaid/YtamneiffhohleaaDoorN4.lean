/- Contracts: the text of a plan, both sides. -/
import Derived.Test.YtamneiffhohleaaDoorN2
import Derived.Test.YtamneiffhohleaaDoorE3
import Derived.Lib.Join
namespace Go.Proofs.YtamneiffhohleaaDoor
open Go Go.RowKit
set_option linter.unusedVariables false
set_option linter.unusedSimpArgs false

def semi : ByteArray := ⟨#[59, 32]⟩
def wordI (x : It) : ByteArray := x.name ++ ⟨#[32]⟩ ++ numT x.rows
def wordOf (xs : List It) (z : Int) : ByteArray := match xs[z.toNat]? with
  | some x => wordI x
  | none => ⟨#[]⟩
def jn : List ByteArray → ByteArray
  | [] => ⟨#[]⟩
  | x :: r => r.foldl (fun s y => s ++ semi ++ y) x
theorem empty_app (y : ByteArray) : (⟨#[]⟩ : ByteArray) ++ y = y := by apply ByteArray.ext; simp
theorem jn_first (y : ByteArray) : jn ([] ++ [y]) = y := rfl
theorem jn_snoc {l : List ByteArray} (h : 0 < l.length) (y : ByteArray) : jn (l ++ [y]) = jn l ++ semi ++ y := by
  cases l with
  | nil => simp at h
  | cons x r => simp [jn, List.foldl_append]
def ws (xs : List It) (ch : List Int) (k : Nat) : List ByteArray := (ch.take k).map (wordOf xs)
theorem ws_zero (xs : List It) (ch : List Int) : ws xs ch 0 = [] := rfl
theorem ws_len {xs : List It} {ch : List Int} {k : Nat} (h : k ≤ ch.length) : (ws xs ch k).length = k := by unfold ws; simp; omega
theorem ws_succ {xs : List It} {ch : List Int} {k m : Nat} (h : k < ch.length) (hm : ch[k] = (m : Int)) (hx : m < xs.length) : ws xs ch (k + 1) = ws xs ch k ++ [wordI xs[m]] := by
  unfold ws
  rw [List.take_succ_eq_append_getElem h, List.map_append, hm]
  simp [wordOf, hx]
theorem jn_list (r : List ByteArray) : ∀ x : ByteArray, (r.foldl (fun s y => s ++ semi ++ y) x).data.toList = x.data.toList ++ Lib.joinTail semi.data.toList (r.map (·.data.toList)) := by
  induction r with
  | nil => intro x; simp [Lib.joinTail]
  | cons y r ih =>
    intro x
    rw [List.foldl_cons, ih]
    simp [Lib.joinTail]
theorem join_jn (l : List ByteArray) : (⟨(Lib.join (l.map (·.data.toList)) semi.data.toList).toArray⟩ : ByteArray) = jn l := by
  cases l with
  | nil => rfl
  | cons x r =>
    apply ByteArray.ext
    apply Array.toList_inj.1
    rw [List.map_cons, Lib.join_cons]
    exact (jn_list r x).symm
theorem wordI_size {x : It} (h : itB x = true) : (wordI x).size ≤ 25 ∧ x.name.size ≤ 10 ∧ (numT x.rows).size ≤ 14 := by
  have hb := itB_bd h
  have hn : x.name.size ≤ 10 := by
    simp [itB, wordB] at h
    have := h.1.1.1.2.2
    simpa using this
  have hz : (numT x.rows).size ≤ 14 := numT_size (by omega) (by omega)
  refine ⟨?_, hn, hz⟩
  unfold wordI
  rw [ByteArray.size_append, ByteArray.size_append]
  have : (⟨#[32]⟩ : ByteArray).size = 1 := rfl
  omega
theorem jn_size (xs : List It) (ch : List Int) (a : Int) (hx : itemsB xs = true) (hc : choiceB a xs ch = true) : ∀ k, k ≤ ch.length → (jn (ws xs ch k)).size ≤ 27 * k := by
  intro k
  induction k with
  | zero => intro _; exact Nat.le_refl _
  | succ k ih =>
    intro h
    have ih' := ih (by omega)
    obtain ⟨m, hm, hmx⟩ := choice_in hc (i := k) (by omega)
    have hw := (wordI_size (items_good hx hmx)).1
    rw [ws_succ (by omega) hm hmx]
    rcases Nat.eq_zero_or_pos k with h0 | h0
    · subst h0
      rw [ws_zero, jn_first]; omega
    · rw [jn_snoc (by rw [ws_len (by omega)]; exact h0), ByteArray.size_append, ByteArray.size_append]
      have : semi.size = 2 := rfl
      omega
def planOk (a b c d : Int) (xs : List It) (ch : List Int) : Bool := choiceOk a b c d xs ch && decide (timeS b d xs ch ≤ c)
def planT (a b c d : Int) (xs : List It) (ch : List Int) : ByteArray := if planOk a b c d xs ch then jn (ws xs ch ch.length) ++ ⟨#[58, 32]⟩ ++ numT (timeS b d xs ch) else ⟨#[]⟩
theorem planOk_no1 {a b c d : Int} {xs : List It} {ch : List Int} (h : choiceOk a b c d xs ch = false) : planOk a b c d xs ch = false := by unfold planOk; rw [h]; rfl
theorem planOk_no2 {a b c d : Int} {xs : List It} {ch : List Int} (h : ¬ timeS b d xs ch ≤ c) : planOk a b c d xs ch = false := by unfold planOk; rw [decide_eq_false h, Bool.and_false]
theorem planOk_yes {a b c d : Int} {xs : List It} {ch : List Int} (h : choiceOk a b c d xs ch = true) (h' : timeS b d xs ch ≤ c) : planOk a b c d xs ch = true := by unfold planOk; rw [h, decide_eq_true h']; rfl
theorem planT_no {a b c d : Int} {xs : List It} {ch : List Int} (h : planOk a b c d xs ch = false) : planT a b c d xs ch = ⟨#[]⟩ := by unfold planT; rw [h]; rfl
theorem planT_yes {a b c d : Int} {xs : List It} {ch : List Int} (h : planOk a b c d xs ch = true) : planT a b c d xs ch = jn (ws xs ch ch.length) ++ ⟨#[58, 32]⟩ ++ numT (timeS b d xs ch) := by unfold planT; rw [h]; rfl
theorem time_pos {a b c d : Int} {xs : List It} {ch : List Int} (he : evB a b c d = true) (hx : itemsB xs = true) (hc : choiceB a xs ch = true) : 0 ≤ timeS b d xs ch := by
  have h1 := sumR_bd he hx hc ch.length (Nat.le_refl _)
  rw [List.take_length] at h1
  obtain ⟨_, _, _, _, _, _, hd0, hd1⟩ := evB_bd he
  have h2 := gaps_bd hd0 hd1 (choice_len hx hc)
  rw [timeS_eq]; omega
theorem info_strN : (Tryd.prog.info? 9).map (fun i => (i.zero, i.size, i.bytes)) = some (some (.string ⟨#[]⟩), 1, 16) := by kernel_rfl
/-- 'append(v, u)' at a step of a region that draws its order, u in a block of its own. -/
theorem step_app_one {P : Program} (w : World) {ops : Array Oper} {o : Oper} {a : Act} {K : Act → World → Prop} {Q : Exit → Act → World → Prop} {E : Prop} (hgd : o.guard = none) (s x : Operand) (t : TypeId)
    (ho : o.op = .call { callee := .builtin .append, args := #[s, x], argTypes := #[t, t] })
    (base : Nat) (e : TypeId) (z : Value) (bytes : Nat) (ht : P.underlying t = some (.slice e)) (hinfo : (P.info? e).map (fun i => (i.zero, i.size, i.bytes)) = some (some z, 1, bytes))
    (hzs : z.cells.size = 1) {v : Value} {n : Nat} {xs : List Value} (hown : w.ownsRow base e 1 v n xs) (hs : a.eval s = v)
    (u : Value) (H : Nat) (hx : a.eval x = .slice (some ⟨H, 0, none⟩) 1 1) (hH : w.heap[H]? = some (.cells #[u] e (0, 0))) (h1 : u.oneCell' = true) (hby : bytes ≤ 1024) (hn : n ≤ 100000000) (hbase : base ≤ w.heap.size)
    (h : ∀ v' w', w'.ownsRow base e 1 v' (n + 1) (xs ++ [u]) → Below base w w' → K (a.put o.dst v') w') :
    if Region.wanted o (yielded ops a.tmps) = true then Oper.wp P o a w K Q else E := by
  have hw : Region.wanted o (yielded ops a.tmps) = true := by simp [Region.wanted, hgd]
  rw [if_pos hw]
  obtain ⟨i0, hi, hz, hsi, hbi⟩ := info_parts hinfo
  have hcell : ∀ j u', [u][j]? = some u' → w.cell? ((⟨H, 0, none⟩ : Addr).add j) = some u' := by
    intro j u' hu
    have hj : j = 0 := by
      have := (List.getElem?_eq_some_iff.1 hu).1
      simpa using this
    subst hj
    rw [add_zero', heap_cell hH]
    simpa using hu
  obtain ⟨v', w', hrun, h2, h3, _, h5⟩ := run_append_own_at (P := P) w base t o.type e i0 z 1 bytes ht hi hz hsi hbi hzs (by omega) v n xs hown ⟨H, 0, none⟩ 1 1 [u] rfl hcell (one_mem h1)
    (by unfold maxLen; omega) (Nat.le_trans (Nat.mul_le_mul_left _ hby) (by omega)) hbase
  unfold Oper.wp execOp
  simp only [ho, resolve, invoke, builtin, Sem.run_bind, Sem.run_pure, Result.andThen_ok, List.map_toArray, List.map_cons, List.map_nil, hs, hx, hrun]
  exact h v' w' h2 ((Below.refl _ _).grown h3 hbase (fun k hk => (hown.lt k hk).1))
theorem joined_any (v : Value) (n base : Nat) (l : List ByteArray) (w : World) (h : w.ownsRow base 9 1 v n (l.map Value.string)) (hv : v ≠ .slice none 0 0 ∨ True) (hlen : (jn l).size ≤ 1000000) (hn : n ≤ 1000000) : Calls Tryd.prog 38 #[v, .string semi] w fun e w' => e = .returned (.string (jn l)) ∧ Below w.heap.size w w' := by
  have hl : l.length = n := by have := h.1; simpa using this
  subst hl
  have hj := join_jn l
  rcases h.2 with ⟨rfl, h0⟩ | ⟨g, cap, cur, rfl, hb, hh, hnc, hcm, _⟩
  · obtain rfl := List.eq_nil_of_length_eq_zero h0
    have hc := Tryd.strings_Join_none none 0 semi w
    unfold semi at hc ⊢
    go_enter Tryd.func38, Tryd.ntmps38
    go_wp2_with fail
    refine hc.mono ?_; rintro e w' ⟨rfl, rfl⟩
    go_wp2_with fail
    go_ret
    exact ⟨rfl, Below.refl _ _⟩
  · rcases Nat.eq_zero_or_pos l.length with h0 | h0
    · obtain rfl := List.eq_nil_of_length_eq_zero h0
      have hc := Tryd.strings_Join_none (some ⟨g, 0, none⟩) cap semi w
      unfold semi at hc ⊢
      go_enter Tryd.func38, Tryd.ntmps38
      go_wp2_with fail
      refine hc.mono ?_; rintro e w' ⟨rfl, rfl⟩
      go_wp2_with fail
      go_ret
      exact ⟨rfl, Below.refl _ _⟩
    · have hsz : (Lib.join (l.map (·.data.toList)) semi.data.toList).length ≤ 140737488355328 := by
        have e : (Lib.join (l.map (·.data.toList)) semi.data.toList).length = (jn l).size := by
          rw [← hj]; show _ = (Lib.join (l.map (·.data.toList)) semi.data.toList).toArray.size; simp
        omega
      have hc := Tryd.strings_Join g 0 cap l semi w (fun j x hx => by
        have hjl := (List.getElem?_eq_some_iff.1 hx).1
        have h2 := h.cellAt j (by simpa using hjl)
        rw [Nat.zero_add]
        rw [h2, List.getElem?_map, hx]; rfl) (h.lt g rfl).2 (by omega) hnc hsz
      rw [hj] at hc
      have Hc := Lib.hid hc
      clear hc
      unfold semi at Hc ⊢
      go_enter Tryd.func38, Tryd.ntmps38
      go_wp2_with fail
      refine Hc.out.mono ?_; rintro e w' ⟨rfl, hb'⟩
      go_wp2_with fail
      go_ret
      exact ⟨rfl, hb'⟩
end Go.Proofs.YtamneiffhohleaaDoor
