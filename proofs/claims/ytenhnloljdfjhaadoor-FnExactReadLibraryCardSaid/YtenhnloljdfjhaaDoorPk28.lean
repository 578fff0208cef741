/- Contracts: a text cut at a byte, both sides. -/
import Derived.Test.YtenhnloljdfjhaaDoorPk11
import Derived.Test.YtenhnloljdfjhaaDoorPk3
import Derived.Lib.SplitLaws
import Derived.Test.YtenhnloljdfjhaaDoorPk20
namespace Go.Proofs.YtenhnloljdfjhaaDoor
open Go Go.RowKit
set_option linter.unusedVariables false
set_option linter.unusedSimpArgs false

def glue (p : List UInt8) : List (List UInt8) → List (List UInt8)
  | [] => [p]
  | q :: r => (p ++ q) :: r
def splitL (c : UInt8) : List UInt8 → List (List UInt8)
  | [] => [[]]
  | b :: l => if b = c then [] :: splitL c l else glue [b] (splitL c l)
theorem splitL_ne (c : UInt8) : ∀ l, splitL c l ≠ []
  | [] => by simp [splitL]
  | b :: l => by
    unfold splitL
    split
    · simp
    · cases splitL c l <;> simp [glue]
theorem glue_glue (p q : List UInt8) (X : List (List UInt8)) : glue p (glue q X) = glue (p ++ q) X := by
  cases X <;> simp [glue]
theorem glue_nil {X : List (List UInt8)} (h : X ≠ []) : glue [] X = X := by
  cases X with
  | nil => exact absurd rfl h
  | cons q r => simp [glue]
theorem splitK_L (c : UInt8) : ∀ (l : List UInt8) (n : Nat), Lib.count l [c] = n → Lib.splitK [c] 0 n l = splitL c l
  | [], n, h => by
    rw [Lib.count_one] at h
    simp at h
    subst h
    rfl
  | b :: l, n, h => by
    by_cases hb : b = c
    · subst hb
      rw [Lib.count_cons_eq] at h
      obtain ⟨m, rfl⟩ : ∃ m, n = m + 1 := ⟨n - 1, by omega⟩
      have hix : Lib.index (b :: l) [b] = ((0 : Nat) : Int) := by rw [Lib.index]; simp [List.isPrefixOf]
      rw [Lib.splitK, hix, if_neg (by decide), splitL, if_pos rfl]
      have ih := splitK_L b l m (by omega)
      simpa using ih
    · rw [Lib.count_cons_ne b c l hb] at h
      have ih := splitK_L c l n h
      rw [splitL, if_neg hb, ← ih]
      cases n with
      | zero => rfl
      | succ k =>
        have hp : ([c] : List UInt8).isPrefixOf (b :: l) = false := by simp [List.isPrefixOf, Ne.symm hb]
        have hix : Lib.index (b :: l) [c] = if Lib.index l [c] == -1 then -1 else Lib.index l [c] + 1 := by rw [Lib.index, hp]; simp
        have hge := Lib.index_ge l [c]
        by_cases hm : Lib.index l [c] = -1
        · exfalso
          rw [Lib.count_miss hm] at h
          omega
        · obtain ⟨j, hj⟩ : ∃ j : Nat, Lib.index l [c] = j := ⟨(Lib.index l [c]).toNat, by omega⟩
          have hix' : Lib.index (b :: l) [c] = ((j + 1 : Nat) : Int) := by rw [hix, if_neg (fun e => hm (beq_iff_eq.1 e)), hj]; omega
          rw [Lib.splitK, Lib.splitK, hix', hj, if_neg (by first | (simp; done) | (simp; omega)), if_neg (by first | (simp; done) | (simp; omega))]
          simp only [glue, Int.toNat_natCast]
          simp
def splitW (c : UInt8) (s : ByteArray) : List ByteArray := (splitL c s.data.toList).map fun l => ⟨l.toArray⟩
theorem ba_eta (s : ByteArray) : (⟨s.data.toList.toArray⟩ : ByteArray) = s := by apply ByteArray.ext; simp
theorem splitW_of {c : UInt8} {s : ByteArray} {ws : List ByteArray} (h : ws.map (·.data.toList) = splitL c s.data.toList) : splitW c s = ws := by
  unfold splitW
  rw [← h, List.map_map]
  conv => rhs; rw [← List.map_id ws]
  apply List.map_congr_left
  intro x _
  exact ba_eta x
theorem splitB_W (c : UInt8) (s : ByteArray) : Lib.splitB ⟨#[c]⟩ 0 (Lib.countB s ⟨#[c]⟩) s = splitW c s := by
  symm
  apply splitW_of
  rw [Lib.splitB_data]
  exact splitK_L c s.data.toList _ rfl
theorem splitW_len (c : UInt8) (s : ByteArray) : (splitW c s).length = Lib.countB s ⟨#[c]⟩ + 1 := by
  rw [← splitB_W]
  exact Lib.splitB_all _ (by show 1 ≤ 1; omega) 0 _ s rfl
/-- One step of the cutting. -/
theorem cut_hit {c : UInt8} {l : List UInt8} {k : Nat} {p : List UInt8} {X Y : List (List UInt8)} (hk : k < l.length) (h : Y = X ++ glue p (splitL c (l.drop k))) (hc : l[k] = c) : Y = (X ++ [p]) ++ glue [] (splitL c (l.drop (k + 1))) := by
  rw [h, List.drop_eq_getElem_cons hk, splitL, if_pos hc, glue_nil (splitL_ne _ _)]
  simp [glue]
theorem cut_miss {c : UInt8} {l : List UInt8} {k : Nat} {p : List UInt8} {X Y : List (List UInt8)} (hk : k < l.length) (h : Y = X ++ glue p (splitL c (l.drop k))) (hc : l[k] ≠ c) : Y = X ++ glue (p ++ [l[k]]) (splitL c (l.drop (k + 1))) := by
  rw [h, List.drop_eq_getElem_cons hk, splitL, if_neg hc, glue_glue]
theorem cut_end {c : UInt8} {l : List UInt8} {k : Nat} {p : List UInt8} {X Y : List (List UInt8)} (hk : l.length ≤ k) (h : Y = X ++ glue p (splitL c (l.drop k))) : Y = X ++ [p] := by
  rw [h, List.drop_of_length_le hk]; simp [splitL, glue]
theorem ext_snoc {s : ByteArray} {f k : Nat} (hk : k < s.size) (hf : f ≤ k) : (s.extract f (k + 1)).data.toList = (s.extract f k).data.toList ++ [s[k]] := by
  rw [ByteArray.data_extract, ByteArray.data_extract, Array.toList_extract, Array.toList_extract, List.extract_eq_take_drop, List.extract_eq_take_drop, show k + 1 - f = (k - f) + 1 by omega]
  rw [List.take_succ_eq_append_getElem (by simp; omega), List.getElem_drop]
  congr 2
  show s.data.toList[f + (k - f)]'_ = _
  have e : f + (k - f) = k := by omega
  simp only [e]
  rfl
theorem ext_self (s : ByteArray) (k : Nat) : (s.extract k k).data.toList = [] := by
  rw [ByteArray.data_extract, Array.toList_extract, List.extract_eq_take_drop, Nat.sub_self]; rfl
theorem u8_of {a b : UInt8} (h : ((a.toNat : Int) == (b.toNat : Int)) = true) : a = b := by
  have : (a.toNat : Int) = (b.toNat : Int) := by simpa using h
  exact UInt8.toNat_inj.1 (by omega)
theorem info_strY : (Tryd.prog.info? 9).map (fun i => (i.zero, i.size, i.bytes)) = some (some (.string ⟨#[]⟩), 1, 16) := by kernel_rfl
set_option maxRecDepth 10000 in
set_option maxHeartbeats 2000000 in
theorem l1Split_any (s : ByteArray) (c : UInt8) (w : World) (hs : s.size ≤ 10000000) : Calls Tryd.prog 9 #[.string s, .int .u8 c.toNat] w fun e w' =>
    ∃ v, e = .returned v ∧ w'.ownsRow w.heap.size 9 1 v (splitW c s).length ((splitW c s).map Value.string) ∧ Below w.heap.size w w' := by
  obtain ⟨Y, hY⟩ : ∃ Y, Y = splitL c s.data.toList := ⟨_, rfl⟩
  have HY := Lib.hid hY
  clear hY
  go_enter Tryd.func9, Tryd.ntmps9
  go_wp2_with fail
  go_loopw [5, 6, 7] (fun o f i wr => ∃ k g : Nat, ∃ ws : List ByteArray, k ≤ s.size ∧ g ≤ k ∧ i = .int .i64 k ∧ f = .int .i64 g ∧ ws.length ≤ k ∧ Hid (wr.ownsRow w.heap.size 9 1 o ws.length (ws.map Value.string) ∧ Below w.heap.size w wr ∧ Y = ws.map (·.data.toList) ++ glue (s.extract g k).data.toList (splitL c (s.data.toList.drop k)))) (fun _ _ i _ => s.size - (intOf i).toNat)
  case atStart => exact ⟨0, 0, [], by omega, by omega, rfl, rfl, by simp, Lib.hid ⟨World.ownsRow_nil _ _ _ _, Below.refl _ _, by rw [HY.out, ext_self, glue_nil (splitL_ne _ _)]; simp⟩⟩
  case round =>
    obtain ⟨k, g, ws, hk, hg, rfl, rfl, hwl, Hr⟩ := hrel
    by_cases hlt : k < s.size
    · cases hb : ((s[k].toNat : Int) == (c.toNat : Int))
      · have Hn := Lib.hid (cut_miss (by simpa using hlt) Hr.out.2.2 (by rw [bytes_get _ _ hlt]; intro e; rw [e] at hb; simp at hb))
        have He := Lib.hid (ext_snoc hlt hg)
        go_wp2_with fail
        exact ⟨⟨k + 1, g, ws, by omega, by omega, by go_num, rfl, by omega, Lib.hid ⟨Hr.out.1, Hr.out.2.1, by rw [He.out]; exact Hn.out⟩⟩, by simp [intOf]; omega⟩
      · have hce : s[k] = c := u8_of hb
        have Hn := Lib.hid (cut_hit (by simpa using hlt) Hr.out.2.2 (by rw [bytes_get _ _ hlt]; exact hce))
        have hk0 : (0 : Int) ≤ (g : Int) := by omega
        have hk1 : (g : Int) ≤ (k : Int) := by omega
        have hk2 : (k : Int) ≤ (s.size : Int) := by omega
        clear hce
        go_wp2_with (at_builtin; go_must (refine wpList_app wr rfl _ _ _ rfl w.heap.size 9 _ 1 16 Tryd.underlying28 info_strY rfl (by omega) Hr.out.1 [.string (s.extract g k)] rfl rfl rfl (one_mem rfl) (by omega) (by omega) Hr.out.2.1.size ?_); intro v4 w4 hown4 hb4 _ _)
        have hown5 : w4.ownsRow w.heap.size 9 1 v4 (ws ++ [s.extract g k]).length ((ws ++ [s.extract g k]).map Value.string) := by
          rw [List.map_append, List.length_append]; exact hown4
        exact ⟨⟨k + 1, k + 1, ws ++ [s.extract g k], by omega, by omega, by go_num, by go_num, by simp; omega, Lib.hid ⟨hown5, bw_tr Hr.out.2.1 hb4 (Nat.le_refl _), by rw [ext_self, List.map_append]; exact Hn.out⟩⟩, by simp [intOf]; omega⟩
    · obtain rfl : k = s.size := by omega
      have Hn := Lib.hid (cut_end (by simp) Hr.out.2.2)
      have hk0 : (0 : Int) ≤ (g : Int) := by omega
      have hk1 : (g : Int) ≤ (s.size : Int) := by omega
      go_wp2_with (at_builtin; go_must (refine wpList_app wr rfl _ _ _ rfl w.heap.size 9 _ 1 16 Tryd.underlying28 info_strY rfl (by omega) Hr.out.1 [.string (s.extract g s.size)] rfl rfl rfl (one_mem rfl) (by omega) (by omega) Hr.out.2.1.size ?_); intro v4 w4 hown4 hb4 _ _)
      have e : splitW c s = ws ++ [s.extract g s.size] := splitW_of (by rw [List.map_append, ← HY.out]; exact Hn.out.symm)
      go_ret
      refine ⟨_, rfl, ?_, bw_tr Hr.out.2.1 hb4 (Nat.le_refl _)⟩
      rw [e, List.map_append, List.length_append]
      exact hown4
end Go.Proofs.YtenhnloljdfjhaaDoor
