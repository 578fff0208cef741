/- Contracts: drawn books. -/
import Derived.Test.YtpkpahadjdkafaaGreatDoorX2
import Derived.Test.YtpkpahadjdkafaaGreatDoorW3
namespace Go.Proofs.YtpkpahadjdkafaaGreatDoor
open Go Go.RowKit
set_option linter.unusedVariables false
set_option linter.unusedSimpArgs false

theorem gb_bel {a w w' : World} {C : Nat} (h : a.grownBy w (some C)) (hb : Below a.heap.size w w') : a.grownBy w' (some C) :=
  ⟨hb.os.trans h.os, hb.tape.trans h.tape, hb.output.trans h.output, Nat.le_trans h.size hb.size, fun k hk hn => (hb.block k hk).trans (h.block k hk hn)⟩
theorem own_blk' {w w' : World} {base : Nat} {e : TypeId} {size n g c : Nat} {xs : List Value} (h : w.ownsRow base e size (.slice (some ⟨g, 0, none⟩) n c) n xs) (hb : w'.heap[g]? = w.heap[g]?) : w'.ownsRow base e size (.slice (some ⟨g, 0, none⟩) n c) n xs := by
  obtain ⟨h1, h2⟩ := h
  refine ⟨h1, ?_⟩
  rcases h2 with ⟨h2, _⟩ | ⟨g', cap, cur, hv, hx, hg, r⟩
  · cases h2
  · have hgg : g = g' := by injection hv with hv _ _; injection hv with hv; injection hv
    subst hgg
    exact .inr ⟨g, cap, cur, hv, hx, hb.trans hg, r⟩
theorem Cur.bel {w w' : World} {C lim B : Nat} (h : Cur w C lim) (hb : Below B w w') (hB : C < B) : Cur w' C lim := by
  have hC := h.lt
  obtain ⟨v, a, s, h1, h2, h3, h4, h5, ho⟩ := h
  refine ⟨v, a, s, h1.keep (fun p hp => hb.cell (by omega)), h2, h3, h4, h5, ?_⟩
  exact own_blk' ho (hb.block C hB)
theorem own_cur {w w' : World} {base C n : Nat} {e : TypeId} {size : Nat} {v : Value} {xs : List Value} (h : w.ownsRow base e size v n xs) (hg : w.grownBy w' (some C)) (hC : C < base) : w'.ownsRow base e size v n xs := by
  refine h.kept hg ?_
  cases hv : v.ownBlock with
  | none => exact .inl rfl
  | some k => exact .inr (fun x => by injection x with x; have := (h.lt k hv).1; omega)
def AllSm (xs : List Rc) : Prop := ∀ x ∈ xs, RcSmall x
theorem AllSm.fit {xs : List Rc} (h : AllSm xs) : AllFit xs := fun x hx => (h x hx).fit
theorem addLx_all {xs : List Rc} {r : Rc} {P : Rc → Prop} (h : ∀ x ∈ xs, P x) (hr : P r) : ∀ x ∈ addLx xs r, P x := by
  intro x hx
  unfold addLx addL at hx
  split at hx
  · split at hx
    · exact h x hx
    · split at hx
      · unfold insR at hx
        rcases List.mem_append.1 hx with hx | hx
        · exact h x (List.mem_of_mem_take hx)
        · rcases List.mem_append.1 hx with hx | hx
          · rw [List.mem_singleton.1 hx]; exact hr
          · exact h x (List.mem_of_mem_drop hx)
      · cases hx
  · cases hx
/-- What a draw of a book leaves. -/
def DrewBook (w : World) (C lim n : Nat) (e : Ending) (w' : World) : Prop := ∃ v, ∃ xs : List Rc, e = .returned v ∧ w'.ownsRow w.heap.size 39 5 v xs.length (xs.flatMap Rc.cells) ∧ AllSm xs ∧ xs.length ≤ n ∧ Cur w' C lim ∧ w.grownBy w' (some C)
theorem specAdd_agg (V : Value) (xs : List Rc) (r : Rc) (w : World) (h : Recs w V xs) (hn : NilOk V) (hs : AllFit xs) (hrf : RcFit r) : Calls Tryz.prog 44 #[V, .agg #[.int .i64 r.day, .string r.meth, .string r.touch, .int .i64 r.rows, .string r.note]] w (AddPost w xs r) := specAddRecord_any V xs r w h hn hs hrf
set_option maxRecDepth 10000 in
set_option maxHeartbeats 4000000 in
theorem drawBook_any (w : World) (C lim : Nat) (h : Cur w C lim) (hl : lim ≤ 10000000) : Calls Tryz.prog 20 #[.pointer (some ⟨C, 0, none⟩)] w (DrewBook w C (lim + 1000) 20) := by
  have H := Lib.hid h
  have hCl := h.lt
  clear h
  go_enter Tryz.func20, Tryz.ntmps20
  go_wp2_with fail
  refine (pick_any w C lim 6 H.out (by omega) (by omega) (by omega)).mono ?_; rintro e w1 ⟨b, rfl, hb, hc1, hg1⟩
  obtain ⟨n, rfl⟩ : ∃ n : Nat, b = n := ⟨b.toNat, by omega⟩
  have hn6 : n < 6 := by omega
  have C1 := Lib.hid hc1
  have G1 := Lib.hid hg1
  clear hc1 hg1 hb
  go_wp2_with fail
  go_loopw [3, 4] (fun o i wr => ∃ k : Nat, ∃ xs : List Rc, k ≤ n ∧ i = .int .i64 k ∧ Hid (wr.ownsRow w.heap.size 39 5 o xs.length (xs.flatMap Rc.cells) ∧ AllSm xs ∧ xs.length ≤ 20 ∧ Cur wr C (lim + 2 + 100 * (n - k)) ∧ w.grownBy wr (some C))) (fun _ i _ => (intOf i).toNat)
  case atStart => exact ⟨n, [], by omega, rfl, Lib.hid ⟨World.ownsRow_nil _ _ _ _, (fun x hx => by cases hx), by simp, C1.out.more (by omega), G1.out⟩⟩
  case round =>
    obtain ⟨k, xs, hk, rfl, Hr⟩ := hrel
    by_cases hpos : 0 < k
    · obtain ⟨j, rfl⟩ : ∃ j, k = j + 1 := ⟨k - 1, by omega⟩
      go_wp2_with fail
      refine (drawRecord_any wr C _ Hr.out.2.2.2.1 (by omega)).mono ?_; rintro e w2 ⟨r, rfl, hr, hc2, hg2⟩
      have ho2 := own_cur Hr.out.1 hg2 hCl
      have O2 := Lib.hid ho2
      have C2 := Lib.hid hc2
      have G2 := Lib.hid (gb_tr Hr.out.2.2.2.2 hg2)
      have Rs := Lib.hid hr
      clear ho2 hc2 hg2 hr
      unfold Rc.v
      go_wp2_with fail
      refine (specAdd_agg _ xs r w2 (recs_of_own O2.out) (nilok_own O2.out) Hr.out.2.1.fit Rs.out.fit).mono ?_; rintro e w3 ⟨v3, rfl, ho3, hb3⟩
      have O3 := Lib.hid (own_base ho3 G2.out.size)
      have O2' := Lib.hid (own_to O2.out hb3)
      have C3 := Lib.hid (C2.out.to hb3)
      have G3 := Lib.hid (gb_to G2.out hb3)
      have Sm := Lib.hid (addLx_all Hr.out.2.1 Rs.out)
      have Ln := Lib.hid (addLx_len xs r)
      obtain ⟨q, hq⟩ : ∃ q, q = addOx xs r := ⟨_, rfl⟩
      obtain ⟨f, hf⟩ : ∃ f, f = addFx xs r := ⟨_, rfl⟩
      obtain ⟨L, hL⟩ : ∃ L, L = addLx xs r := ⟨_, rfl⟩
      rw [← hq, ← hf]
      rw [← hL] at O3 Sm Ln
      clear hq hf hL ho3 hb3
      cases q
      · go_wp2_with fail
        exact ⟨⟨j, xs, by omega, by go_num, Lib.hid ⟨O2'.out, Hr.out.2.1, Hr.out.2.2.1, C3.out.more (by omega), G3.out⟩⟩, by simp [intOf]⟩
      · go_wp2_with fail
        exact ⟨⟨j, L, by omega, by go_num, Lib.hid ⟨O3.out, Sm.out, Ln.out, C3.out.more (by omega), G3.out⟩⟩, by simp [intOf]⟩
    · obtain rfl : k = 0 := by omega
      go_wp2_with fail
      have hfin := Hr.out
      obtain ⟨h1, h2, h3, h4, h5⟩ := hfin
      go_ret
      exact ⟨_, xs, rfl, h1, h2, h3, h4.more (by omega), h5⟩
theorem info_Rc4 : (Tryz.prog.info? 39).map (fun i => (i.zero, i.size, i.bytes)) = some (some (.agg #[.int .i64 0, .string ⟨#[]⟩, .string ⟨#[]⟩, .int .i64 0, .string ⟨#[]⟩]), 5, 64) := by kernel_rfl
theorem flat_snoc (xs : List Rc) (r : Rc) : xs.flatMap Rc.cells ++ [.int .i64 r.day, .string r.meth, .string r.touch, .int .i64 r.rows, .string r.note] = (xs ++ [r]).flatMap Rc.cells := by simp [Rc.cells]
theorem allSm_snoc {xs : List Rc} {r : Rc} (h : AllSm xs) (hr : RcSmall r) : AllSm (xs ++ [r]) := by
  intro x hx
  rcases List.mem_append.1 hx with hx | hx
  · exact h x hx
  · rw [List.mem_singleton.1 hx]; exact hr
set_option maxRecDepth 10000 in
set_option maxHeartbeats 4000000 in
theorem drawAnyBook_any (w : World) (C lim : Nat) (h : Cur w C lim) (hl : lim ≤ 5000000) : Calls Tryz.prog 32 #[.pointer (some ⟨C, 0, none⟩)] w (DrewBook w C (lim + 2000) 21) := by
  have H := Lib.hid h
  have hCl := h.lt
  clear h
  go_enter Tryz.func32, Tryz.ntmps32
  go_wp2_with fail
  refine (drawBook_any w C lim H.out (by omega)).mono ?_; rintro e w1 ⟨v1, xs, rfl, ho1, hs1, hn1, hc1, hg1⟩
  have O1 := Lib.hid ho1
  have S1 := Lib.hid hs1
  have C1 := Lib.hid hc1
  have G1 := Lib.hid hg1
  clear ho1 hs1 hc1 hg1
  go_wp2_with fail
  refine (pick_any w1 C _ 12 C1.out (by omega) (by omega) (by omega)).mono ?_; rintro e w2 ⟨b, rfl, hb, hc2, hg2⟩
  have O2 := Lib.hid (own_cur O1.out hg2 hCl)
  have C2 := Lib.hid hc2
  have G2 := Lib.hid (gb_tr G1.out hg2)
  obtain ⟨b0, b1⟩ := hb
  clear hc2 hg2
  by_cases hb0 : b = 0
  · subst hb0
    go_wp2_with fail
    refine (drawRecord_any w2 C _ C2.out (by omega)).mono ?_; rintro e w3 ⟨r, rfl, hr3, hc3, hg3⟩
    have O3 := Lib.hid (own_cur O2.out hg3 hCl)
    have C3 := Lib.hid hc3
    have G3 := Lib.hid (gb_tr G2.out hg3)
    have S3 := Lib.hid hr3
    clear hc3 hg3 hr3
    unfold Rc.v
    go_wp2_with (at_builtin; go_must (refine wpList_app w3 rfl _ _ _ rfl w.heap.size 39 _ 5 64 Tryz.underlying23 info_Rc4 rfl (by omega) O3.out [.int .i64 r.day, .string r.meth, .string r.touch, .int .i64 r.rows, .string r.note] rfl rfl rfl (by simp [Value.oneCell']) (by omega) (by omega) G3.out.size ?_); intro v4 w4 hown4 hb4 _ _)
    go_ret
    exact ⟨_, xs ++ [r], rfl, by rw [← flat_snoc, List.length_append]; exact hown4, allSm_snoc S1.out S3.out, by simp; omega, (C3.out.bel hb4 hCl).more (by omega), gb_bel G3.out hb4⟩
  · have hc0 : (b == 0) = false := by simpa using hb0
    by_cases hb1' : b = 1
    · subst hb1'
      by_cases hlen : 0 < xs.length
      · have hel := recs_of_own O2.out
        obtain ⟨A, c, rfl, hh1, hh2, hr⟩ := hel
        obtain ⟨ad, rfl, hC⟩ := recs_el hr rfl hlen
        have hC0 := hC w2 (Below.refl _ _)
        rw [Nat.zero_mul, add_zero'] at hC0
        have S0 := Lib.hid (S1.out _ (List.getElem_mem hlen))
        obtain ⟨x, ex⟩ : ∃ x, x = xs[0] := ⟨_, rfl⟩
        rw [← ex] at hC0 S0
        have hadd : ad.add 0 = ad := add_zero' ad
        clear hC hr ex
        go_wp2_with (at_builtin; go_must (refine wpList_app w2 rfl _ _ _ rfl w.heap.size 39 _ 5 64 Tryz.underlying23 info_Rc4 rfl (by omega) O2.out [.int .i64 x.day, .string x.meth, .string x.touch, .int .i64 x.rows, .string x.note] rfl rfl rfl (by simp [Value.oneCell']) (by omega) (by omega) G2.out.size ?_); intro v4 w4 hown4 hb4 _ _)
        go_ret
        exact ⟨_, xs ++ [x], rfl, by rw [← flat_snoc, List.length_append]; exact hown4, allSm_snoc S1.out S0.out, by simp; omega, (C2.out.bel hb4 hCl).more (by omega), gb_bel G2.out hb4⟩
      · have hlen0 : xs.length = 0 := by omega
        obtain rfl := List.eq_nil_of_length_eq_zero hlen0
        obtain ⟨A, c, rfl, _, _, _⟩ := sl_of_own O2.out
        clear hlen hlen0
        go_wp2_with fail
        go_ret
        exact ⟨_, [], rfl, O2.out, S1.out, by simp, C2.out.more (by omega), G2.out⟩
    · have hc1 : (b == 1) = false := by simpa using hb1'
      by_cases hb2 : b = 2
      · subst hb2
        go_wp2_with fail
        refine (among_at w2 C _ 2 _ [20, 21] (by simp) C2.out (by omega) rfl (by omega) (by omega)).mono ?_; rintro e w3 ⟨z, rfl, hz, hc3, hg3⟩
        have C3 := Lib.hid hc3
        have G3 := Lib.hid (gb_tr G2.out hg3)
        have hz1 : z ≤ 21 := by simp at hz; omega
        clear hc3 hg3 hz
        go_wp2_with fail
        go_loopw [3, 5] (fun o t wr => ∃ A c, ∃ ys : List Rc, o = .slice A ys.length c ∧ ys.length ≤ 21 ∧ Hid (wr.ownsRow w.heap.size 39 5 (.slice A ys.length c) ys.length (ys.flatMap Rc.cells) ∧ AllSm ys ∧ Cur wr C (lim + 2000) ∧ w.grownBy wr (some C))) (fun o _ _ => 22 - (match o with | .slice _ n _ => n | _ => 0))
        case atStart => exact ⟨none, 0, [], rfl, by simp, Lib.hid ⟨World.ownsRow_nil _ _ _ _, (fun x hx => by cases hx), C3.out.more (by omega), G3.out⟩⟩
        case round =>
          obtain ⟨A, c, ys, rfl, hyl, Hy⟩ := hrel
          obtain ⟨A', c', e', hcl, hcm, _⟩ := sl_of_own Hy.out.1
          cases e'
          unfold maxLen at hcm
          by_cases hlt : (ys.length : Int) < z
          · go_wp2_with fail
            obtain ⟨wo, rfl⟩ : ∃ wo : World, wo = wr := ⟨_, rfl⟩
            go_loopw [5] (fun t wr => ∃ s : ByteArray, t = .string s ∧ s.size ≤ ys.length + 1 ∧ wr = wo) (fun t _ => ys.length + 2 - (match t with | .string s => s.size | _ => 0))
            case atStart => exact ⟨⟨#[]⟩, rfl, Nat.zero_le _, rfl⟩
            case round =>
              obtain ⟨s, rfl, hs, rfl⟩ := hrel
              by_cases hle : s.size ≤ ys.length
              · go_wp2_with fail
                have e1 : (s ++ (⟨#[112]⟩ : ByteArray)).size = s.size + 1 := by rw [ByteArray.size_append]; rfl
                refine ⟨⟨_, rfl, by rw [e1]; omega, trivial⟩, ?_⟩
                show ys.length + 2 - (s ++ (⟨#[112]⟩ : ByteArray)).size < ys.length + 2 - s.size
                rw [e1]; omega
              · go_wp2_with (at_builtin; go_must (refine wpList_app wr rfl _ _ _ rfl w.heap.size 39 _ 5 64 Tryz.underlying23 info_Rc4 rfl (by omega) Hy.out.1 [.int .i64 0, .string ⟨#[97]⟩, .string s, .int .i64 1, .string ⟨#[]⟩] rfl rfl rfl (by simp [Value.oneCell']) (by omega) (by omega) Hy.out.2.2.2.size ?_); intro v4 w4 hown4 hb4 _ _)
                obtain ⟨A4, c4, e4, _, _, _⟩ := sl_of_own hown4
                subst e4
                have hl4 : ys.length + 1 = (ys ++ [(⟨0, ⟨#[97]⟩, s, 1, ⟨#[]⟩⟩ : Rc)]).length := by simp
                have hown5 : w4.ownsRow w.heap.size 39 5 (.slice A4 (ys ++ [(⟨0, ⟨#[97]⟩, s, 1, ⟨#[]⟩⟩ : Rc)]).length c4) (ys ++ [(⟨0, ⟨#[97]⟩, s, 1, ⟨#[]⟩⟩ : Rc)]).length ((ys ++ [(⟨0, ⟨#[97]⟩, s, 1, ⟨#[]⟩⟩ : Rc)]).flatMap Rc.cells) := by
                  rw [← hl4, ← flat_snoc]; exact hown4
                have Hn := Lib.hid hown5
                clear hown4 hown5
                refine ⟨⟨A4, c4, ys ++ [(⟨0, ⟨#[97]⟩, s, 1, ⟨#[]⟩⟩ : Rc)], by rw [← hl4], by rw [← hl4]; omega, Lib.hid ⟨Hn.out, allSm_snoc Hy.out.2.1 (rc_small (by decide) (by omega) (by decide)), Hy.out.2.2.1.bel hb4 hCl, gb_bel Hy.out.2.2.2 hb4⟩⟩, by simp; omega⟩
          · go_wp2_with fail
            go_ret
            exact ⟨_, ys, rfl, Hy.out.1, Hy.out.2.1, hyl, Hy.out.2.2.1, Hy.out.2.2.2⟩
      · have hc2 : (b == 2) = false := by simpa using hb2
        go_wp2_with fail
        go_ret
        exact ⟨_, xs, rfl, O2.out, S1.out, by omega, C2.out.more (by omega), G2.out⟩
end Go.Proofs.YtpkpahadjdkafaaGreatDoor
