/- Contracts: ReadBook, both sides. -/
import Derived.Test.YtpkpahadjdkafaaGreatDoorZ1
namespace Go.Proofs.YtpkpahadjdkafaaGreatDoor
open Go Go.RowKit
set_option linter.unusedVariables false
set_option linter.unusedSimpArgs false

def rbL (s : ByteArray) : List Rc := if s.size ≤ 4000 then (bookOf (linesL s.data.toList) [] 0).1 else []
def rbN (s : ByteArray) : Nat := if s.size ≤ 4000 then (bookOf (linesL s.data.toList) [] 0).2 else 0
def rbO (s : ByteArray) : Bool := decide (s.size ≤ 4000)
def RBPost (w : World) (s : ByteArray) (e : Ending) (w' : World) : Prop := ∃ A q, e = .returned (.tuple #[.slice A (rbL s).length q, .int .i64 (rbN s : Nat), .bool (rbO s)]) ∧
  w'.ownsRow w.heap.size 39 5 (.slice A (rbL s).length q) (rbL s).length ((rbL s).flatMap Rc.cells) ∧ Below w.heap.size w w'
theorem ofL_szR (l : List UInt8) : (⟨l.toArray⟩ : ByteArray).size = l.length := by simp [ByteArray.size]
def rcl (y : Rc) : List Value := [.int .i64 y.day, .string y.meth, .string y.touch, .int .i64 y.rows, .string y.note]
theorem sl1 {w : World} {H : Nat} (y : Rc) (h : w.heap[H]? = some (.cells #[.int .i64 y.day, .string y.meth, .string y.touch, .int .i64 y.rows, .string y.note] 39 (0, 0))) :
    Sl w 5 (.slice (some ⟨H, 0, none⟩) 1 1) 1 (rcl y) :=
  sl_of_own (base := 0) (e := 39) (own_of_heap h (Nat.zero_le _) (by unfold maxLen; omega) rfl)
theorem rcl_one (y : Rc) : ∀ u ∈ rcl y, u.oneCell' = true := by
  intro u hu
  simp [rcl] at hu
  rcases hu with rfl | rfl | rfl | rfl | rfl <;> rfl
theorem nil1 {a : Addr} {n c : Nat} : NilOk (.slice (some a) n c) := by intro n' c' h; cases h
theorem box_inR {X w' : World} {o : Obj} (hb : Below (X.alloc o).heap.size (X.alloc o) w') : w'.heap[X.heap.size]? = some o := (hb.block _ (by simp)).trans (heap_new X o)
theorem box_inRD {X w' : World} {o : Obj} (hb : Below (X.alloc o).drew.heap.size (X.alloc o).drew w') : w'.heap[X.heap.size]? = some o := (hb.block _ (show X.heap.size < (X.alloc o).heap.size by simp)).trans (heap_new X o)
theorem flat_snocR (acc : List Rc) (y : Rc) : acc.flatMap Rc.cells ++ rcl y = (acc ++ [y]).flatMap Rc.cells := by simp [List.flatMap_append, rcl, Rc.cells]
theorem recs_ownR {w : World} {base : Nat} {A : Option Addr} {q : Nat} {acc : List Rc} (h : w.ownsRow base 39 5 (.slice A acc.length q) acc.length (acc.flatMap Rc.cells)) : Recs w (.slice A acc.length q) acc := sl_of_own h
set_option maxRecDepth 10000 in
set_option maxHeartbeats 4000000 in
theorem implReadBook_any (s : ByteArray) (w : World) (hs : s.size ≤ 1048576) (ht : Tab10 w) (hm : MaxOk w) : Calls Tryz.prog 8 #[.string s] w (RBPost w s) := by
  have Hrd := Lib.hid (fun (x : ByteArray) (hx : x.size ≤ 1048576) W (hW : Below w.heap.size w W) => readRecord_any x W hx (ht.to hW) (hm.to hW))
  unfold ReadPost at Hrd
  have Hix := Lib.hid (fun (x : ByteArray) W => Tryz.strings_IndexByte x 10 W)
  clear ht hm
  by_cases hz : s.size ≤ 4000
  · have hzi : (s.size : Int) ≤ 4000 := by omega
    have Hpost : Hid (∀ A q (L : List Rc) (N : Nat) W, (L, N) = bookOf (linesL s.data.toList) [] 0 → W.ownsRow w.heap.size 39 5 (.slice A L.length q) L.length (L.flatMap Rc.cells) → Below w.heap.size w W → RBPost w s (.returned (.tuple #[.slice A L.length q, .int .i64 N, .bool true])) W) := Lib.hid fun A q L N W hb ho hB => by
      unfold RBPost rbL rbN rbO
      rw [if_pos hz, if_pos hz, decide_eq_true hz, ← hb]
      exact ⟨A, q, rfl, ho, hB⟩
    obtain ⟨F, hF⟩ : ∃ F, F = bookOf (linesL s.data.toList) [] 0 := ⟨_, rfl⟩
    rw [← hF] at Hpost
    have HF := Lib.hid hF
    clear hF
    go_enter Tryz.func8, Tryz.ntmps8
    go_wp2_with fail
    refine box1 (C := fun W => Code.wp _ _ _ _ W) ?_
    intro wb hw k1 hB0
    have hown0 : wb.ownsRow w.heap.size 39 5 (.slice (some ⟨w.heap.size, 0, none⟩) 0 0) 0 [] := own_of_heap (cs := #[]) k1 (Nat.le_refl _) (by unfold maxLen; omega) rfl
    clear k1
    go_loopw [5, 6] (fun l i wr => ∃ (a : Nat) (acc : List Rc) (A : Option Addr) (q : Nat), a ≤ s.size ∧ acc.length ≤ 20 ∧ i = .int .i64 a ∧ l = .slice A acc.length q ∧ wr.ownsRow w.heap.size 39 5 (.slice A acc.length q) acc.length (acc.flatMap Rc.cells) ∧ Below w.heap.size w wr ∧ (∀ x ∈ acc, RcFit x) ∧ Hid (bookOf (linesL (s.data.toList.drop a)) acc a = F)) (fun _ i _ => s.size + 1 - (intOf i).toNat)
    case atStart => exact ⟨0, [], _, 0, by omega, by simp, rfl, rfl, hown0, hw, by simp, Lib.hid (by rw [HF.out]; rfl)⟩
    case round =>
      obtain ⟨a, acc, A, q, ha, hal, rfl, rfl, hown, hB, hfit, Hf⟩ := hrel
      obtain ⟨wo, rfl⟩ : ∃ wo : World, wo = wr := ⟨_, rfl⟩
      have Hfit := Lib.hid hfit
      have Hown := Lib.hid hown
      have hext := ext_all s a
      have hix := Hix.out (s.extract a s.size) wo
      rw [hext] at hix
      have Hi := Lib.hid hix
      have hge := Lib.indexByte_ge (s.data.toList.drop a) 10
      have ha0 : (0 : Int) ≤ (a : Int) := by omega
      have ha1 : (a : Int) ≤ (s.size : Int) := by omega
      clear hext hix hfit hown
      rcases (by omega : Lib.indexByte (s.data.toList.drop a) 10 = -1 ∨ 0 ≤ Lib.indexByte (s.data.toList.drop a) 10) with hneg | hpos
      · have He := Lib.hid (lines_miss hneg)
        have Hneg := Lib.hid hneg
        clear hneg hge
        go_wp2_with fail
        refine Hi.out.mono ?_; rintro e w' ⟨rfl, rfl⟩
        have hn : Lib.indexByte (s.data.toList.drop a) ((10 : Int).toNat.toUInt8) = -1 := Hneg.out
        rw [hn]
        clear hn
        go_wp2_with fail
        refine bodyPost_ret (v := .tuple #[.slice A acc.length q, .int .i64 (a : Int), .bool true]) (by simp [results, go_sem]) rfl ?_
        exact Hpost.out A q acc a _ (by rw [← Hf.out, He.out]; rfl) Hown.out hB
      · obtain ⟨e, hee⟩ : ∃ e : Nat, Lib.indexByte (s.data.toList.drop a) 10 = (e : Int) := ⟨_, (Int.toNat_of_nonneg hpos).symm⟩
        have hlines := lines_hit hee
        have hel : a + e < s.size := by have := hlines.1; rw [List.length_drop, bytes_len] at this; omega
        have Hl := Lib.hid hlines.2.1
        have hline := ext_line hee
        have Hee := Lib.hid hee
        obtain ⟨ln, hln⟩ : ∃ ln : ByteArray, ln = (⟨((s.data.toList.drop a).take e).toArray⟩ : ByteArray) := ⟨_, rfl⟩
        have hlsz : ln.size = e := by rw [hln, ofL_szR, List.length_take, List.length_drop, bytes_len]; omega
        rw [← hln] at hline Hl
        have Hline := Lib.hid hline
        have Hlsz := Lib.hid hlsz
        have hxs : (s.extract a (a + e + 1)).size ≤ 1048576 := by rw [ByteArray.size_extract]; omega
        have Hr := Lib.hid (fun W hW => Hrd.out (s.extract a (a + e + 1)) hxs W hW)
        obtain ⟨o, ho⟩ : ∃ o, o = readO (s.extract a (a + e + 1)) := ⟨_, rfl⟩
        rw [← ho] at Hr
        rw [hline] at ho
        have Ho := Lib.hid ho
        obtain ⟨y, hy⟩ : ∃ y, y = o.getD rz := ⟨_, rfl⟩
        obtain ⟨b, hb⟩ : ∃ b, b = o.isSome := ⟨_, rfl⟩
        rw [← hy, ← hb] at Hr
        have Hy := Lib.hid hy
        have Hb := Lib.hid hb
        unfold Rc.v at Hr
        have hs1 : ((a : Int) + (e : Int) + 1).toNat = a + e + 1 := by omega
        have hs2 : (a : Int) + (e : Int) + 1 ≤ (s.size : Int) := by omega
        have hs3 : (0 : Int) ≤ (a : Int) + (e : Int) + 1 := by omega
        have hs4 : (a : Int) ≤ (a : Int) + (e : Int) + 1 := by omega
        clear hlines hline hee hpos hge hxs ho hy hb hln hlsz
        go_wp2_with fail
        refine Hi.out.mono ?_; rintro e' w' ⟨rfl, rfl⟩
        have hn : Lib.indexByte (s.data.toList.drop a) ((10 : Int).toNat.toUInt8) = (e : Int) := Hee.out
        rw [hn]
        clear hn
        go_wp2_with fail
        refine (Hr.out _ hB).mono ?_; rintro e' w2 ⟨rfl, hb2⟩
        go_upto_region 9 with fail
        refine box1 (C := fun W => Code.wp _ _ _ _ W) ?_
        intro wd hwd k2 hBd
        have R2 := boxRule k2
        have hBwd := bw_to hB (bw_to hb2 hwd)
        have Hod := Lib.hid (own_to Hown.out (bw_to hb2 hwd))
        have hdr : Below wd.heap.size wd wd.drew := Below.drew (Below.refl _ _)
        have Hc := Lib.hid (fun W (hW : Below wd.heap.size wd W) => cloneRc_any (.slice A acc.length q) acc W (Recs.to (recs_ownR Hod.out) hW) (nilok_own Hod.out) (by omega))
        clear k2 hb2 hwd
        go_cut [10] (fun s10 wx => ∃ A2 q2, s10 = .slice A2 (acc.length + 1) q2 ∧ wx.ownsRow wd.heap.size 39 5 (.slice A2 (acc.length + 1) q2) (acc.length + 1) (acc.flatMap Rc.cells ++ rcl y) ∧ Below wd.heap.size wd wx)
        case first =>
          go_region_held3 (fun W => Below wd.heap.size wd W) (first | with_reducible assumption | exact Below.drew (by assumption) | exact bw_to (by assumption) hb' | exact bw_al (by assumption) _ | exact Below.trans (by assumption) hb4)
            (first | (go_at_call 28; refine (Hc.out _ (by assumption)).mono ?_; rintro e' w' ⟨v2, rfl, ho2, hb'⟩; (have ho2 := own_base (base' := wd.heap.size) ho2 (Below.size (by assumption))); (try (first | have kb := box_inR hb' | have kb := box_inRD hb'))) | (refine step_app_sl _ (by rfl) _ _ _ (by rfl) wd.heap.size 39 _ 5 64 Tryz.underlying23 info_Rc (by rfl) (by omega) (own_to ho2 (bw_al (Below.refl _ _) _)) (by rfl) (sl1 y (heap_new _ _)) nil1 (by rfl) (rcl_one y) (by omega) (by omega) (Below.size (by assumption)) (acc.length + 1) rfl ?_; intro A2 q2 w4 ho4 hb4 hg4) | (refine step_app_sl _ (by rfl) _ _ _ (by rfl) wd.heap.size 39 _ 5 64 Tryz.underlying23 info_Rc (by rfl) (by omega) ho2 (by rfl) (sl1 y kb) nil1 (by rfl) (rcl_one y) (by omega) (by omega) (Below.size (by assumption)) (acc.length + 1) rfl ?_; intro A2 q2 w4 ho4 hb4 hg4))
          all_goals
            have hBB : Below wd.heap.size wd w4 := by assumption
            go_wp2_with fail
            go_meet
            exact ⟨A2, q2, rfl, ho4, hBB⟩
        case rest =>
          obtain ⟨A2, q2, rfl, ho4, hB5⟩ := hcut
          have hBw5 := bw_to hBwd hB5
          have O4 := Lib.hid ho4
          have Od5 := Lib.hid (own_to Hod.out hB5)
          clear ho4 hdr R2 hs1 hs2 hs3 hs4
          cases o with
          | none =>
            have hbf : b = false := Hb.out
            subst hbf
            have Hres := Lib.hid (show (acc, a) = F by rw [← Hf.out, Hl.out, book_none Ho.out.symm])
            go_wp2_with fail
            refine bodyPost_ret (v := .tuple #[.slice A acc.length q, .int .i64 (a : Int), .bool true]) (by simp [results, go_sem]) rfl ?_
            exact Hpost.out A q acc a _ Hres.out Od5.out hBw5
          | some r =>
            have hbt : b = true := Hb.out
            subst hbt
            obtain rfl : y = r := Hy.out
            have hrg := recB_fit (readO_good Ho.out.symm)
            have hrec : Recs wc (.slice A2 (acc ++ [y]).length q2) (acc ++ [y]) := recs_ownR (by rw [← flat_snocR, List.length_append]; exact O4.out)
            have Hg := Lib.hid (implGoodBook_any _ (acc ++ [y]) wc hrec (fun x hx => by
              rcases List.mem_append.1 hx with h | h
              · exact Hfit.out x h
              · rw [List.mem_singleton.1 h]; exact hrg))
            rw [List.length_append] at Hg
            have Hrg := Lib.hid hrg
            obtain ⟨g, hg⟩ : ∃ g, g = bookB (acc ++ [y]) := ⟨_, rfl⟩
            rw [← hg] at Hg
            have Hgg := Lib.hid hg
            clear hrg hrec hg
            go_wp2_with fail
            refine Hg.out.mono ?_; rintro e' w6 ⟨rfl, hb6⟩
            have hBw6 := bw_to hBw5 hb6
            cases g
            · have Hres := Lib.hid (show (acc, a) = F by rw [← Hf.out, Hl.out, book_bad Ho.out.symm Hgg.out.symm])
              go_wp2_with fail
              refine bodyPost_ret (v := .tuple #[.slice A acc.length q, .int .i64 (a : Int), .bool true]) (by simp [results, go_sem]) rfl ?_
              exact Hpost.out A q acc a _ Hres.out (own_to Od5.out hb6) hBw6
            · have hl20 : acc.length + 1 ≤ 20 := by have := ((bookB_iff _).1 Hgg.out.symm).1; simp at this; omega
              have hls := Hlsz.out
              have Hres := Lib.hid (show bookOf (linesL (s.data.toList.drop (a + e + 1))) (acc ++ [y]) (a + e + 1) = F by
                rw [← Hf.out, Hl.out, book_more Ho.out.symm Hgg.out.symm, List.drop_drop, hls, ← Nat.add_assoc])
              have O6 := Lib.hid (own_to O4.out hb6)
              go_wp2_with fail
              refine ⟨⟨a + e + 1, acc ++ [y], A2, q2, by omega, by simp; omega, by go_num, by simp, ?_, hBw6, ?_, Hres⟩, by simp [intOf]; omega⟩
              · rw [← flat_snocR, List.length_append]; exact own_base O6.out hBwd.size
              · intro x hx
                rcases List.mem_append.1 hx with h | h
                · exact Hfit.out x h
                · rw [List.mem_singleton.1 h]; exact Hrg.out
  · have Hn : Hid (RBPost w s (.returned (.tuple #[.slice none 0 0, .int .i64 0, .bool false])) w) := Lib.hid (by
      unfold RBPost rbL rbN rbO
      rw [if_neg hz, if_neg hz, decide_eq_false hz]
      exact ⟨none, 0, rfl, World.ownsRow_nil _ _ _ _, Below.refl _ _⟩)
    have hzi : (4000 : Int) < (s.size : Int) := by omega
    go_enter Tryz.func8, Tryz.ntmps8
    go_wp2_with fail
    exact bodyPost_ret (v := .tuple #[.slice none 0 0, .int .i64 0, .bool false]) (by simp [results, go_sem]) rfl Hn.out
theorem lines_W (s : ByteArray) : linesL s.data.toList = (splitW 10 s).dropLast := rfl
theorem drop_lines {Ls : List ByteArray} {p k : Nat} (hp : Ls.length = p + 1) (hk : k < p) : Ls.dropLast.drop k = (Ls[k]'(by omega)) :: Ls.dropLast.drop (k + 1) := by
  rw [List.drop_eq_getElem_cons (by rw [List.length_dropLast]; omega), List.getElem_dropLast]
/-- step_app_sl for a guarded operation that is wanted. -/
theorem step_app_gd {P : Program} (w : World) {ops : Array Oper} {o : Oper} {a : Act} {K : Act → World → Prop} {Q : Exit → Act → World → Prop} {E : Prop} (hwant : Region.wanted o (yielded ops a.tmps) = true) (s x : Operand) (t : TypeId)
    (ho : o.op = .call { callee := .builtin .append, args := #[s, x], argTypes := #[t, t] })
    (base : Nat) (e : TypeId) (z : Value) (size bytes : Nat) (ht : P.underlying t = some (.slice e)) (hinfo : (P.info? e).map (fun i => (i.zero, i.size, i.bytes)) = some (some z, size, bytes))
    (hzs : z.cells.size = size) (hsz : 0 < size) {v : Value} {n : Nat} {xs : List Value} (hown : w.ownsRow base e size v n xs) (hs : a.eval s = v)
    {vx : Value} {m : Nat} {news : List Value} (hsl : Sl w size vx m news) (hnil : NilOk vx) (hx : a.eval x = vx) (h1 : ∀ u ∈ news, u.oneCell' = true) (hby : bytes ≤ 1024) (hn : n + m ≤ 100000000) (hbase : base ≤ w.heap.size)
    (N : Nat) (hN : n + m = N) (h : ∀ A c w', w'.ownsRow base e size (.slice A N c) N (xs ++ news) → Below base w w' → w.grownBy w' v.ownBlock → K (a.put o.dst (.slice A N c)) w') :
    if Region.wanted o (yielded ops a.tmps) = true then Oper.wp P o a w K Q else E := by
  rw [if_pos hwant]
  exact wp_app_sl w s x t ho base e z size bytes ht hinfo hzs hsz hown hs hsl hnil hx h1 hby hn hbase N hN h
set_option maxRecDepth 10000 in
set_option maxHeartbeats 4000000 in
theorem specReadBook_any (s : ByteArray) (w : World) (hs : s.size ≤ 1048576) : Calls Tryz.prog 9 #[.string s] w (RBPost w s) := by
  by_cases hz : s.size ≤ 4000
  · have hzi : (s.size : Int) ≤ 4000 := by omega
    have Hpost : Hid (∀ A q (L : List Rc) (N : Nat) W, (L, N) = bookOf (linesL s.data.toList) [] 0 → W.ownsRow w.heap.size 39 5 (.slice A L.length q) L.length (L.flatMap Rc.cells) → Below w.heap.size w W → RBPost w s (.returned (.tuple #[.slice A L.length q, .int .i64 N, .bool true])) W) := Lib.hid fun A q L N W hb ho hB => by
      unfold RBPost rbL rbN rbO
      rw [if_pos hz, if_pos hz, decide_eq_true hz, ← hb]
      exact ⟨A, q, rfl, ho, hB⟩
    obtain ⟨F, hF⟩ : ∃ F, F = bookOf (linesL s.data.toList) [] 0 := ⟨_, rfl⟩
    rw [← hF] at Hpost
    rw [lines_W] at hF
    have Hsp := Lib.hid (l1Split_any s 10 w (by omega))
    have hlen := splitW_len 10 s
    have hsz := splitW_size (c := 10) (s := s)
    obtain ⟨Ls, hLs⟩ : ∃ Ls, Ls = splitW 10 s := ⟨_, rfl⟩
    rw [← hLs] at hF Hsp hlen hsz
    obtain ⟨p, hp⟩ : ∃ p, Ls.length = p + 1 := ⟨_, hlen⟩
    have hpl : p ≤ 4000 := by have := Lib.countB_le ⟨#[10]⟩ (by show 1 ≤ 1; omega) s.size s (Nat.le_refl _); omega
    have HF := Lib.hid hF
    have Hsz := Lib.hid hsz
    have Hp := Lib.hid hp
    rw [hp] at Hsp
    clear hF hlen hsz hLs hp
    go_enter Tryz.func9, Tryz.ntmps9
    go_wp2_with fail
    refine Hsp.out.mono ?_; rintro e w1 ⟨v, rfl, hv, hb1⟩
    obtain ⟨A0, q0, ev, hq0, hqm, hrd⟩ := sl_of_own hv
    subst ev
    unfold maxLen at hqm
    rw [← Hp.out] at hrd
    have h2 : (p : Int) + 1 - 1 = p := by omega
    clear hv
    go_wp2_with fail
    go_loopw [5, 6, 23] (fun o at_ i wr => ∃ (k a : Nat) (acc : List Rc) (A : Option Addr) (q : Nat), k ≤ p ∧ a ≤ 4001 * k ∧ acc.length ≤ 20 ∧ i = .int .i64 k ∧ at_ = .int .i64 a ∧ o = .slice A acc.length q ∧ wr.ownsRow w1.heap.size 39 5 (.slice A acc.length q) acc.length (acc.flatMap Rc.cells) ∧ Below w1.heap.size w1 wr ∧ (∀ x ∈ acc, RcFit x) ∧ Hid (bookOf (Ls.dropLast.drop k) acc a = F)) (fun _ _ i _ => p + 1 - (intOf i).toNat)
    case atStart => exact ⟨0, 0, [], none, 0, by omega, by omega, by simp, rfl, rfl, rfl, World.ownsRow_nil _ _ _ _, Below.refl _ _, by simp, Lib.hid (by rw [HF.out]; rfl)⟩
    case round =>
      obtain ⟨k, a, acc, A, q, hk, hak, hal, rfl, rfl, rfl, hown, hB, hfit, Hf⟩ := hrel
      obtain ⟨wo, rfl⟩ : ∃ wo : World, wo = wr := ⟨_, rfl⟩
      have Hfit := Lib.hid hfit
      have Hown := Lib.hid hown
      clear hfit hown
      by_cases hlt : k < p
      · have hkl : k < Ls.length := by rw [Hp.out]; omega
        obtain ⟨ad, rfl, hC⟩ := strs_el hrd hkl
        have hC0 := hC wo hB
        have hls := Hsz.out _ (List.getElem_mem hkl)
        have Hd := Lib.hid (drop_lines Hp.out hlt)
        have hxs : (Ls[k] ++ (⟨#[10]⟩ : ByteArray)).size ≤ 1048576 := by rw [ByteArray.size_append]; show _ + 1 ≤ _; omega
        have Hr := Lib.hid (fun W => l28Read_any (Ls[k] ++ (⟨#[10]⟩ : ByteArray)) W hxs)
        obtain ⟨ln, hln⟩ : ∃ ln, ln = Ls[k] := ⟨_, rfl⟩
        rw [← hln] at hC0 hls Hd Hr
        have hb1s : (⟨#[10]⟩ : ByteArray).size = 1 := rfl
        have hls4 : ln.size ≤ 4000 := by omega
        obtain ⟨o, ho⟩ : ∃ o, o = readO (ln ++ (⟨#[10]⟩ : ByteArray)) := ⟨_, rfl⟩
        rw [← ho] at Hr
        have Ho := Lib.hid (show o = readO (ln ++ nl) from ho)
        clear hC hln ho hls hkl hxs
        go_wp2_with fail
        refine (Hr.out _).mono ?_; rintro e' w2 ⟨y, rfl, hy, hb2⟩
        have Hy := Lib.hid hy
        unfold Rc.v
        go_upto_region 10 with fail
        refine box1 (C := fun W => Code.wp _ _ _ _ W) ?_
        intro wd hwd k2 hBd
        have R2 := boxRule k2
        have hBwd := bw_to hB (bw_to hb2 hwd)
        have Hod := Lib.hid (own_to Hown.out (bw_to hb2 hwd))
        have hdr : Below wd.heap.size wd wd.drew := Below.drew (Below.refl _ _)
        have Hc := Lib.hid (fun W (hW : Below wd.heap.size wd W) => l28Own_any (.slice A acc.length q) acc W (Recs.to (recs_ownR Hod.out) hW) (nilok_own Hod.out) (by omega))
        clear k2 hb2 hwd hy
        cases o with
        | none =>
          have Hres := Lib.hid (show (acc, a) = F by rw [← Hf.out, Hd.out, book_none Ho.out.symm])
          go_wp2_with fail
          go_big_quiet (fail)
          go_wp2_with fail
          refine bodyPost_ret (v := .tuple #[.slice (A) acc.length q, .int .i64 (a : Int), .bool true]) (by simp [results, go_sem]) rfl ?_
          exact Hpost.out A q acc a _ Hres.out (own_base (own_to Hod.out (bw_dr (Below.refl _ _) _)) hb1.size) (bw_dr (bw_to hb1 hBwd) _)
        | some r =>
          obtain rfl : y = r := Hy.out r rfl
          have hrg := recB_fit (readO_good Ho.out.symm)
          have Hrg := Lib.hid hrg
          have hfa : AllFit (acc ++ [y]) := fun x hx => by
              rcases List.mem_append.1 hx with h | h
              · exact Hfit.out x h
              · rw [List.mem_singleton.1 h]; exact hrg
          have Hg := Lib.hid (fun A2 q2 W (h : W.ownsRow wd.heap.size 39 5 (.slice A2 (acc.length + 1) q2) (acc.length + 1) (acc.flatMap Rc.cells ++ rcl y)) => l28Book_any (.slice A2 (acc ++ [y]).length q2) (acc ++ [y]) W (recs_ownR (base := wd.heap.size) (by rw [← flat_snocR, List.length_append]; exact h)) hfa)
          rw [List.length_append] at Hg
          obtain ⟨g, hg⟩ : ∃ g, g = bookB (acc ++ [y]) := ⟨_, rfl⟩
          rw [← hg] at Hg
          have Hgg := Lib.hid hg
          clear hrg hfa hg
          go_cut [43] (fun s43 wx => s43 = .bool (!g) ∧ Below wd.heap.size wd wx)
          case first =>
            go_region_held3 (fun W => Below wd.heap.size wd W) (first | with_reducible assumption | exact Below.drew (by assumption) | exact bw_to (by assumption) hb' | exact bw_al (by assumption) _ | exact Below.trans (by assumption) hb4)
              (first | (go_at_call 31; refine (Hc.out _ (by assumption)).mono ?_; rintro e' w' ⟨v2, rfl, ho2, hb'⟩; (have ho2 := own_base (base' := wd.heap.size) ho2 (Below.size (by assumption))); (try (first | have kb := box_inR hb' | have kb := box_inRD hb'))) | (refine step_app_gd _ (by rfl) _ _ _ (by rfl) wd.heap.size 39 _ 5 64 Tryz.underlying23 info_Rc (by rfl) (by omega) (own_to ho2 (bw_al (Below.refl _ _) _)) (by rfl) (sl1 y (heap_new _ _)) nil1 (by rfl) (rcl_one y) (by omega) (by omega) (Below.size (by assumption)) (acc.length + 1) rfl ?_; intro A2 q2 w4 ho4 hb4 hg4) | (refine step_app_gd _ (by rfl) _ _ _ (by rfl) wd.heap.size 39 _ 5 64 Tryz.underlying23 info_Rc (by rfl) (by omega) ho2 (by rfl) (sl1 y kb) nil1 (by rfl) (rcl_one y) (by omega) (by omega) (Below.size (by assumption)) (acc.length + 1) rfl ?_; intro A2 q2 w4 ho4 hb4 hg4) | (go_at_call 18; refine (Hg.out _ _ _ ho4).mono ?_; rintro e' w' ⟨rfl, hb'⟩))
            all_goals
              have hBB : Below wd.heap.size wd w' := by assumption
              go_wp2_with fail
              go_meet
              exact ⟨by cases g <;> rfl, hBB⟩
          case rest =>
            obtain ⟨rfl, hB5⟩ := hcut
            have hBw5 := bw_to hBwd hB5
            have hown5 := own_to Hod.out hB5
            have R5 := fun i => R2 wc i hB5
            clear hdr R2
            cases g
            · have Hres := Lib.hid (show (acc, a) = F by rw [← Hf.out, Hd.out, book_bad Ho.out.symm Hgg.out.symm])
              have O5 := Lib.hid hown5
              clear hown5 R5
              go_wp2_with fail
              refine bodyPost_ret (v := .tuple #[.slice A acc.length q, .int .i64 (a : Int), .bool true]) (by simp [results, go_sem]) rfl ?_
              exact Hpost.out A q acc a _ Hres.out (own_base O5.out hb1.size) (bw_to hb1 hBw5)
            · have hl20 : acc.length + 1 ≤ 20 := by have := ((bookB_iff _).1 Hgg.out.symm).1; simp at this; omega
              have Hres := Lib.hid (show bookOf (Ls.dropLast.drop (k + 1)) (acc ++ [y]) (a + ln.size + 1) = F by
                rw [← Hf.out, Hd.out, book_more Ho.out.symm Hgg.out.symm])
              go_wp2_with (at_builtin; go_must (refine wpList_app _ rfl _ _ _ rfl w1.heap.size 39 _ 5 64 Tryz.underlying23 info_Rc rfl (by omega) hown5 (rcl y) rfl rfl rfl (rcl_one y) (by omega) (by omega) hBw5.size ?_); intro v2 w3 hown6 hb6 hg6 _)
              obtain ⟨A2, q2, e2, _⟩ := sl_of_own hown6
              subst e2
              refine ⟨⟨k + 1, a + ln.size + 1, acc ++ [y], A2, q2, by omega, by omega, by simp; omega, by go_num, by go_num, by simp, ?_, hBw5.trans hb6, ?_, Hres⟩, by simp [intOf]; omega⟩
              · rw [← flat_snocR, List.length_append]; exact hown6
              · intro x hx
                rcases List.mem_append.1 hx with h | h
                · exact Hfit.out x h
                · rw [List.mem_singleton.1 h]; exact Hrg.out
      · obtain rfl : k = p := by omega
        have Hres := Lib.hid (show (acc, a) = F by rw [← Hf.out, List.drop_of_length_le (by rw [List.length_dropLast, Hp.out]; omega)]; rfl)
        go_wp2_with fail
        refine bodyPost_ret (v := .tuple #[.slice A acc.length q, .int .i64 (a : Int), .bool true]) (by simp [results, go_sem]) rfl ?_
        exact Hpost.out A q acc a _ Hres.out (own_base Hown.out hb1.size) (bw_to hb1 hB)
  · have Hn : Hid (RBPost w s (.returned (.tuple #[.slice none 0 0, .int .i64 0, .bool false])) w) := Lib.hid (by
      unfold RBPost rbL rbN rbO
      rw [if_neg hz, if_neg hz, decide_eq_false hz]
      exact ⟨none, 0, rfl, World.ownsRow_nil _ _ _ _, Below.refl _ _⟩)
    have hzi : (4000 : Int) < (s.size : Int) := by omega
    go_enter Tryz.func9, Tryz.ntmps9
    go_wp2_with fail
    exact bodyPost_ret (v := .tuple #[.slice none 0 0, .int .i64 0, .bool false]) (by simp [results, go_sem]) rfl Hn.out
end Go.Proofs.YtpkpahadjdkafaaGreatDoor
