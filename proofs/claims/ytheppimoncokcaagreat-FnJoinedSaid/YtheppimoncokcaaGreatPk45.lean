/- Contracts: the rows of a touch, both sides. -/
import Derived.Test.YtheppimoncokcaaGreatPk18
import Derived.Test.YtheppimoncokcaaGreatPk13
import Derived.Test.YtheppimoncokcaaGreatPk14
import Derived.Test.YtheppimoncokcaaGreatPk32
import Derived.Test.YtheppimoncokcaaGreatPk44
namespace Go.Proofs.YtheppimoncokcaaGreat
open Go Go.RowKit
set_option linter.unusedVariables false
set_option linter.unusedSimpArgs false

def headsT (m : Mt) (k : Cl) (t : ByteArray) : List ByteArray := headsB (headB m.stage.toNat m.l k.bob k.single) (roundsB m.stage.toNat) t.data.toList
def rowsT (m : Mt) (k : Cl) (t : ByteArray) : List ByteArray := rowsB m.l ((headsT m k t).take t.size)
def askT (m : Mt) (k : Cl) (t : ByteArray) : Bool := callsB m k && touchB t.data.toList
def okT (m : Mt) (k : Cl) (t : ByteArray) : Bool := askT m k t && decide (t.size * m.l.length ≤ 800)
def rowsO (m : Mt) (k : Cl) (t : ByteArray) : List ByteArray := if okT m k t then rowsT m k t else []
theorem headsT_n {m : Mt} {k : Cl} {t : ByteArray} {n : Nat} (h : m.stage = (n : Int)) : headsT m k t = headsB (headB n m.l k.bob k.single) (roundsB n) t.data.toList := by
  unfold headsT; rw [h]; rfl
theorem headsT_len (m : Mt) (k : Cl) (t : ByteArray) : (headsT m k t).length = t.size + 1 := by unfold headsT; rw [heads_len, bytes_len]
theorem headsT_in {m : Mt} {k : Cl} {n : Nat} (h : MGood m n) (t : ByteArray) : ∀ x ∈ headsT m k t, RowIn n x := by
  rw [headsT_n h.st]
  exact heads_in (fun c => head_in h.hi _ _ _ _) _ (rounds_in h.hi)
theorem rowsT_len (m : Mt) (k : Cl) (t : ByteArray) : (rowsT m k t).length = t.size * m.l.length := by
  unfold rowsT; rw [rows_len, List.length_take, headsT_len]; congr 1; omega
theorem touch_size {t : ByteArray} (h : touchB t.data.toList = true) : 1 ≤ t.size ∧ t.size ≤ 60 := by
  unfold touchB at h; rw [Bool.and_eq_true, decide_eq_true_eq, bytes_len] at h; exact h.2
end Go.Proofs.YtheppimoncokcaaGreat

/- Truth by lead heads, a touch that comes round: the program's. -/
namespace Go.Proofs.YtheppimoncokcaaGreat
open Go Go.RowKit
set_option linter.unusedVariables false
set_option linter.unusedSimpArgs false

theorem scanB_inv {n : Nat} (hn : n ≤ 8) : ∀ (cs : List ByteArray) {r : ByteArray}, Inv n r → ∀ x ∈ scanB r cs, Inv n x
  | [], r, hr, x, hx => by rw [List.mem_singleton.1 hx]; exact hr
  | c :: cs, r, hr, x, hx => by
    rw [scanB] at hx
    rcases List.mem_cons.1 hx with rfl | hx
    · exact hr
    · exact scanB_inv hn cs (apply_inv hn hr c) x hx
theorem lead_inv {n : Nat} (hn : n ≤ 8) (cs : List ByteArray) {r : ByteArray} (hr : Inv n r) : ∀ x ∈ leadB r cs, Inv n x := fun x hx => scanB_inv hn cs hr x (List.mem_of_mem_take hx)
theorem heads_inv {n : Nat} (hn : n ≤ 8) {f : UInt8 → ByteArray} (hf : ∀ c, Inv n (f c)) : ∀ (t : List UInt8) {h : ByteArray}, Inv n h → ∀ x ∈ headsB f h t, Inv n x
  | [], h, hh, x, hx => by rw [List.mem_singleton.1 hx]; exact hh
  | c :: t, h, hh, x, hx => by
    rw [headsB] at hx
    rcases List.mem_cons.1 hx with rfl | hx
    · exact hh
    · exact heads_inv hn hf t (hh.times hn (hf c)) x hx
/-- The inverse of a row. -/
noncomputable def trB (n : Nat) (a : ByteArray) : ByteArray := Classical.epsilon fun b => Inv2 n a b
theorem trB_ok {n : Nat} (hn : n ≤ 8) {a : ByteArray} (h : Inv n a) : Inv2 n a (trB n a) := Classical.epsilon_spec (inv2_of hn h)
theorem Inv2.inv {n : Nat} {a b : ByteArray} (h : Inv2 n a b) : Inv n b := ⟨h.hb, a, h.ha, h.ba, h.ab⟩
noncomputable def quoB (n : Nat) (x y : ByteArray) : ByteArray := timesB x (trB n y)
noncomputable def prodL (n : Nat) (xs ys : List ByteArray) : List ByteArray := xs.flatMap fun x => ys.map (quoB n x)
theorem prod_take {n : Nat} {xs ys : List ByteArray} {i : Nat} (h : i < xs.length) : prodL n (xs.take (i + 1)) ys = prodL n (xs.take i) ys ++ ys.map (quoB n xs[i]) := by
  unfold prodL; rw [List.take_succ_eq_append_getElem h, List.flatMap_append]; simp
/-- No two of a row's first entries clash. -/
def PairsOk (P : Nat → Nat → Prop) (L i k : Nat) : Prop := (∀ a b, a < i → a < b → b < L → P a b) ∧ (∀ b, i < b → b < k → P i b)
theorem pairs_start (P : Nat → Nat → Prop) (L : Nat) : PairsOk P L 0 1 := ⟨fun a b h => by omega, fun b h1 h2 => by omega⟩
theorem pairs_yes {P : Nat → Nat → Prop} {L i k : Nat} (hp : P i k) : PairsOk P L i (k + 1) ↔ PairsOk P L i k :=
  ⟨fun h => ⟨h.1, fun b h1 h2 => h.2 b h1 (by omega)⟩, fun h => ⟨h.1, fun b h1 h2 => by
    by_cases e : b = k
    · rw [e]; exact hp
    · exact h.2 b h1 (by omega)⟩⟩
theorem pairs_no {P : Nat → Nat → Prop} {L i k : Nat} (hi : i < k) (hp : ¬ P i k) : ¬ PairsOk P L i (k + 1) := fun h => hp (h.2 k hi (by omega))
theorem pairs_next {P : Nat → Nat → Prop} {L i : Nat} (hi : i < L) : PairsOk P L (i + 1) (i + 1 + 1) ↔ PairsOk P L i L :=
  ⟨fun h => ⟨fun a b h1 h2 h3 => h.1 a b (by omega) h2 h3, fun b h1 h2 => h.1 i b (by omega) h1 h2⟩, fun h => ⟨fun a b h1 h2 h3 => by
    by_cases e : a = i
    · rw [e]; exact h.2 b (by omega) h3
    · exact h.1 a b (by omega) h2 h3, fun b h1 h2 => by omega⟩⟩
/-- Two heads clash. -/
noncomputable def NoClash (n : Nat) (S hs : List ByteArray) (a b : Nat) : Prop := timesB (trB n (hs.getD a ⟨#[]⟩)) (hs.getD b ⟨#[]⟩) ∉ S
noncomputable def Clear (n : Nat) (S hs : List ByteArray) : Prop := ∀ a b, a < b → b < hs.length → NoClash n S hs a b
theorem clear_end {n : Nat} {S hs : List ByteArray} : PairsOk (NoClash n S hs) hs.length hs.length (hs.length + 1) ↔ Clear n S hs :=
  ⟨fun h a b h1 h2 => h.1 a b (by omega) h1 h2, fun h => ⟨fun a b _ h2 h3 => h a b h2 h3, fun b h1 h2 => by omega⟩⟩
/-- Truth by lead heads. -/
noncomputable def leadR (n : Nat) (m : Mt) : List ByteArray := leadB (roundsB n) m.l
open Classical in
noncomputable def thB (n : Nat) (m : Mt) (k : Cl) (t : ByteArray) : Bool := decide (leadR n m).Nodup && decide (Clear n (prodL n (leadR n m) (leadR n m)) ((headsT m k t).take t.size))
def endT (m : Mt) (k : Cl) (t : ByteArray) : ByteArray := endB (headB m.stage.toNat m.l k.bob k.single) (roundsB m.stage.toNat) t.data.toList
theorem headsT_last (m : Mt) (k : Cl) (t : ByteArray) : (headsT m k t)[t.size]? = some (endT m k t) := by
  have := heads_last (headB m.stage.toNat m.l k.bob k.single) t.data.toList (roundsB m.stage.toNat)
  rw [bytes_len] at this
  exact this
theorem headsT_inv {m : Mt} {k : Cl} {n : Nat} (h : MGood m n) (t : ByteArray) : ∀ x ∈ headsT m k t, Inv n x := by
  rw [headsT_n h.st]
  exact heads_inv h.hi (fun c => run_inv h.hi _ (Inv.rounds h.hi)) _ (Inv.rounds h.hi)
set_option maxRecDepth 10000 in
set_option maxHeartbeats 2000000 in
theorem touchEnd_any (m : Mt) (v : Value) (k : Cl) (t : ByteArray) (n : Nat) (w : World) (hg : CGood m k n) (hv : Strs w v m.l) (ht : touchB t.data.toList = true) : Calls Tryz.prog 105 #[m.v v, k.v, .string t] w fun e w' => e = .returned (.string (endT m k t)) ∧ Below w.heap.size w w' := by
  have Hh := Lib.hid (fun W hW => heads_any m v k t n W hg (hv.to hW) ht)
  rw [← headsT_n hg.m.st] at Hh
  have Hhl := Lib.hid (headsT_len m k t)
  have Hlast := Lib.hid (headsT_last m k t)
  have hts := touch_size ht
  obtain ⟨A, c, hv', _⟩ := hv
  subst hv'
  unfold Mt.v Cl.v at *
  clear hg ht
  go_enter Tryz.func105, Tryz.ntmps105
  go_wp2_with fail
  refine box2 (C := fun W => Calls _ _ _ W _) ?_
  intro wb hw k1 k2 hB0
  have R1 := boxRule k1
  have R2 := boxRule k2
  clear k1 k2
  refine (Hh.out _ hw).mono ?_; rintro e w1 ⟨A1, q1, rfl, hown, hb1⟩
  obtain ⟨A', c', e', _, _, hrd⟩ := sl_of_own hown
  cases e'
  rw [← Hhl.out] at hrd
  obtain ⟨ad, rfl, hC⟩ := strs_el (k := t.size) hrd (by rw [Hhl.out]; omega)
  have hC0 := hC _ (Below.refl _ _)
  have he : (headsT m k t)[t.size]'(by rw [Hhl.out]; omega) = endT m k t := by
    obtain ⟨h1, h2⟩ := List.getElem?_eq_some_iff.1 Hlast.out
    exact h2
  rw [he] at hC0
  clear hC he hrd hown
  go_wp2_with fail
  go_ret
  exact ⟨rfl, bw_to hw hb1⟩
theorem str_beq (a b : ByteArray) : (a.toList == b.toList) = decide (a = b) := by
  rw [bytes_toList, bytes_toList, Bool.eq_iff_iff, beq_iff_eq, decide_eq_true_eq]
  exact ⟨bytes_ext, fun h => by rw [h]⟩
set_option maxHeartbeats 2000000 in
theorem comesRound_any (m : Mt) (v : Value) (k : Cl) (t : ByteArray) (n : Nat) (w : World) (hg : CGood m k n) (hv : Strs w v m.l) (ht : touchB t.data.toList = true) : Calls Tryz.prog 69 #[m.v v, k.v, .string t] w fun e w' => e = .returned (.bool (decide (endT m k t = roundsB n))) ∧ Below w.heap.size w w' := by
  have He := Lib.hid (fun W hW => touchEnd_any m v k t n W hg (hv.to hW) ht)
  have hn := hg.m.hi
  have hst := hg.m.st
  obtain ⟨A, c, hv', _⟩ := hv
  subst hv'
  unfold Mt.v Cl.v at *
  rw [hst] at He ⊢
  clear hg ht hst
  go_enter Tryz.func69, Tryz.ntmps69
  go_wp2_with fail
  refine box2 (C := fun W => Code.wp _ _ _ _ W) ?_
  intro wb hw k1 k2 hB0
  have R1 := boxRule k1
  have R2 := boxRule k2
  have hdr : Below wb.heap.size wb wb.drew := Below.drew (Below.refl _ _)
  clear k1 k2
  go_region_held3 (fun W => Below wb.heap.size wb W) (first | exact Below.drew (by assumption) | exact bw_to (by assumption) hb')
    (first | (go_at_call 96; refine (rounds_any n _ hn).mono ?_; rintro e w' ⟨rfl, rfl⟩) | (go_at_call 105; refine (He.out _ (bw_to hw (by assumption))).mono ?_; rintro e w' ⟨rfl, hb'⟩))
  all_goals
    have hBB : Below wb.heap.size wb w' := by assumption
    go_wp2_with fail
    go_ret
    exact ⟨ret_bool (str_beq _ _), bw_to hw hBB⟩
end Go.Proofs.YtheppimoncokcaaGreat

/- The rings of a group hold each row once: a plain account. -/
namespace Go.Proofs.YtheppimoncokcaaGreat
open Go Go.RowKit
set_option linter.unusedVariables false
set_option linter.unusedSimpArgs false

theorem iter_mem {f : ByteArray → ByteArray} {G : List ByteArray} (hf : ∀ x ∈ G, f x ∈ G) {h : ByteArray} (hh : h ∈ G) : ∀ j, iterB f h j ∈ G
  | 0 => hh
  | j + 1 => hf _ (iter_mem hf hh j)
theorem iter_pull {f : ByteArray → ByteArray} {G S : List ByteArray} (hf : ∀ x ∈ G, f x ∈ G) (hS : ∀ x ∈ G, f x ∈ S → x ∈ S) {h : ByteArray} (hh : h ∈ G) : ∀ j, iterB f h j ∈ S → h ∈ S
  | 0, e => e
  | j + 1, e => iter_pull hf hS hh j (hS _ (iter_mem hf hh j) e)
theorem ring_mem {f : ByteArray → ByteArray} {h x : ByteArray} {R : Nat} : x ∈ ringL f h R ↔ ∃ j, j < R ∧ iterB f h j = x := by
  unfold ringL
  rw [List.mem_map]
  constructor
  · rintro ⟨j, h1, h2⟩; exact ⟨j, List.mem_range.1 h1, h2⟩
  · rintro ⟨j, h1, h2⟩; exact ⟨j, List.mem_range.2 h1, h2⟩
theorem ring_nodup {f : ByteArray → ByteArray} {G : List ByteArray} (hf : ∀ x ∈ G, f x ∈ G) (hi : ∀ x ∈ G, ∀ y ∈ G, f x = f y → x = y) {h : ByteArray} (hh : h ∈ G) {R : Nat} (hR : IsRing f h R) : (ringL f h R).Nodup := by
  have key : ∀ i d, iterB f h i = iterB f h (i + d) → h = iterB f h d := fun i => by
    induction i with
    | zero => intro d e; rw [Nat.zero_add] at e; exact e
    | succ i ih =>
      intro d e
      rw [Nat.succ_add] at e
      exact ih d (hi _ (iter_mem hf hh i) _ (iter_mem hf hh (i + d)) e)
  unfold ringL
  rw [List.nodup_iff_pairwise_ne, List.pairwise_map]
  refine (List.pairwise_lt_range (n := R)).imp_of_mem ?_
  intro i j h1 h2 hlt e
  have hj := List.mem_range.1 h2
  obtain ⟨d, rfl⟩ : ∃ d, j = i + d := ⟨j - i, by omega⟩
  exact hR.2.2 d (by omega) (by omega) (key i d e).symm
theorem rgs_sum {f : ByteArray → ByteArray} {RR : ByteArray → Nat} {G : List ByteArray} (hd : G.Nodup) (hf : ∀ x ∈ G, f x ∈ G) (hi : ∀ x ∈ G, ∀ y ∈ G, f x = f y → x = y) (hR : ∀ x ∈ G, IsRing f x (RR x)) (hn : ∀ x ∈ G, (ringL f x (RR x)).Nodup) : ∀ (l seen : List ByteArray), (∀ x ∈ l, x ∈ G) → (∀ x ∈ G, x ∈ l ∨ x ∈ seen) → seen.Nodup → (∀ x ∈ seen, x ∈ G) → (∀ x ∈ G, f x ∈ seen → x ∈ seen) → ((rgs f RR l seen).map List.length).sum + seen.length = G.length
  | [], seen, _, hc, hs, hg, _ => by
    rw [rgs]
    have hp : seen.Perm G := (List.perm_ext_iff_of_nodup hs hd).2 (fun x => ⟨hg x, fun h => (hc x h).resolve_left (by simp)⟩)
    simpa using hp.length_eq
  | h :: t, seen, hl, hc, hs, hg, hb => by
    rw [rgs]
    have hhG := hl h (by simp)
    by_cases hm : h ∈ seen
    · rw [if_pos hm]
      refine rgs_sum hd hf hi hR hn t seen (fun x hx => hl x (by simp [hx])) (fun x hx => ?_) hs hg hb
      rcases hc x hx with h1 | h1
      · rcases List.mem_cons.1 h1 with rfl | h1
        · exact .inr hm
        · exact .inl h1
      · exact .inr h1
    · rw [if_neg hm]
      have ih := rgs_sum hd hf hi hR hn t (seen ++ ringL f h (RR h)) (fun x hx => hl x (by simp [hx])) (fun x hx => ?_) ?_ (fun x hx => ?_) (fun x hx hx2 => ?_)
      · rw [List.map_cons, List.sum_cons, ringL_len]
        rw [List.length_append, ringL_len] at ih
        omega
      · rcases hc x hx with h1 | h1
        · rcases List.mem_cons.1 h1 with rfl | h1
          · exact .inr (List.mem_append.2 (.inr (ring_mem.2 ⟨0, by have := (hR _ hhG).1; omega, rfl⟩)))
          · exact .inl h1
        · exact .inr (List.mem_append.2 (.inl h1))
      · refine List.nodup_append.2 ⟨hs, hn h hhG, ?_⟩
        intro a ha b hb2 e
        obtain ⟨j, _, hj⟩ := ring_mem.1 hb2
        refine hm (iter_pull hf hb hhG j ?_)
        rw [hj, ← e]; exact ha
      · rcases List.mem_append.1 hx with h1 | h1
        · exact hg x h1
        · obtain ⟨j, _, rfl⟩ := ring_mem.1 h1
          exact iter_mem hf hhG j
      · rcases List.mem_append.1 hx2 with h1 | h1
        · exact List.mem_append.2 (.inl (hb x hx h1))
        · obtain ⟨j, hj, e⟩ := ring_mem.1 h1
          refine List.mem_append.2 (.inr ?_)
          cases j with
          | succ j =>
            have e2 := hi _ (iter_mem hf hhG j) x hx e
            exact ring_mem.2 ⟨j, by omega, e2⟩
          | zero =>
            have h1 := (hR h hhG).1
            have h2 := (hR h hhG).2.1
            obtain ⟨r, hr⟩ : ∃ r, RR h = r + 1 := ⟨RR h - 1, by omega⟩
            rw [hr] at h2
            have e2 := hi _ (iter_mem hf hhG r) x hx (by show iterB f h (r + 1) = f x; rw [h2]; exact e)
            exact ring_mem.2 ⟨r, by omega, e2⟩
theorem rgs_from (nx : ByteArray → ByteArray) (RR : ByteArray → Nat) : ∀ (l seen : List ByteArray), ∀ x ∈ rgs nx RR l seen, ∃ h ∈ l, x = ringL nx h (RR h)
  | [], seen, x, hx => by simp [rgs] at hx
  | h :: t, seen, x, hx => by
    rw [rgs] at hx
    split at hx
    · obtain ⟨y, hy, e⟩ := rgs_from nx RR t _ x hx
      exact ⟨y, List.mem_cons_of_mem _ hy, e⟩
    · rcases List.mem_cons.1 hx with rfl | hx
      · exact ⟨h, List.mem_cons_self .., rfl⟩
      · obtain ⟨y, hy, e⟩ := rgs_from nx RR t _ x hx
        exact ⟨y, List.mem_cons_of_mem _ hy, e⟩
end Go.Proofs.YtheppimoncokcaaGreat

/- The law on rings: what is asked of a touch along a ring. -/
namespace Go.Proofs.YtheppimoncokcaaGreat
open Go Go.RowKit
set_option linter.unusedVariables false
set_option linter.unusedSimpArgs false

set_option maxHeartbeats 2000000 in
theorem isRound_yes (m : Mt) (v : Value) (k : Cl) (t : ByteArray) (n : Nat) (w : World) (hg : CGood m k n) (hok : callsB m k = true) (hm : MethAt w m v) (hs : MtSmall m) (hk : ClSmall k) (ht : touchB t.data.toList = true) (htz : t.size ≤ maxLen) : Calls Tryz.prog 30 #[m.v v, k.v, .string t] w fun e w' => e = .returned (.tuple #[.bool (decide (endT m k t = roundsB n)), .bool true]) ∧ Below w.heap.size w w' := by
  have HG := Lib.hid (fun W (hW : Below w.heap.size w W) => goodFor_any m v k t W (hm.to hW) hs hk htz)
  have HC := Lib.hid (fun W (hW : Below w.heap.size w W) => comesRound_any m v k t n W hg (hm.to hW).1 ht)
  have eg : (callsB m k && touchB t.data.toList) = true := by rw [hok, ht]; rfl
  rw [eg] at HG
  obtain ⟨d, hd⟩ : ∃ d, d = decide (endT m k t = roundsB n) := ⟨_, rfl⟩
  rw [← hd] at HC ⊢
  obtain ⟨A, c, hv⟩ := hm.form
  subst hv
  clear hm hg hok ht eg hd
  unfold Mt.v Cl.v at *
  go_enter Tryz.func30, Tryz.ntmps30
  go_wp2_with fail
  refine box2 (C := fun W => Calls _ _ _ W _) ?_
  intro wb hw k1 k2 hB0
  have R1 := boxRule k1
  have R2 := boxRule k2
  refine (HG.out _ hw).mono ?_; rintro e w1 ⟨rfl, hb1⟩
  have hB1 := bw_to hw hb1
  go_wp2_with fail
  refine (HC.out _ hB1).mono ?_; rintro e w2 ⟨rfl, hb2⟩
  have hB2 := bw_to hB1 hb2
  go_wp2_with fail
  go_ret2
  exact ⟨rfl, hB2⟩
/-- A row of a row of rows, in every later world. -/
theorem sv_el {w : World} {base : Nat} {A : Option Addr} {c : Nat} {L : List (List ByteArray)} {vs : List Value} (h : OwnSV w base (.slice A L.length c) L vs) {j : Nat} (hj : j < L.length) : ∃ g u, A = some ⟨g, 0, none⟩ ∧ ∀ W, Below w.heap.size w W → W.cell? ⟨g, j, none⟩ = some u ∧ Strs W u L[j] := by
  have hl := h.len
  rcases h.row with ⟨e, e2⟩ | ⟨g, c2, e, _, _⟩
  · subst e2
    exact absurd hj (Nat.not_lt_zero _)
  · injection e with ea eb ec
    subst ea ec
    refine ⟨g, vs[j]'(by omega), rfl, fun W hW => ⟨(h.to hW).at hj (by omega), strs_of_own ((h.to hW).2 j hj (by omega))⟩⟩
/-- The touch along a ring comes round. -/
theorem ring_round {m : Mt} {k : Cl} {n T : Nat} {P B B' Q : ByteArray} (hK : BK m k n T P B B' Q) {bobs : List ByteArray} {h : ByteArray} {R : Nat} (hit : ∀ j, RowIn n (iterB (nxB bobs P B) h j)) (hh : Inv n h) (hR : IsRing (nxB bobs P B) h R) :
    endT m k ⟨(ringT (nxB bobs P B) bobs h R).toArray⟩ = roundsB n := by
  unfold endT
  rw [hK.cg.m.st]
  have e1 := hK.hP
  have e2 := hK.hB
  have h2 := ringT_round hK.hn (F := headB n m.l k.bob k.single) e1.symm e2.symm (fun c => head_in hK.cg.m.hi _ _ _ _) hit hh hR
  simpa using h2
/-- All that the law on rings asks of a drawn method with good bobs. -/
structure RF (m : Mt) (k : Cl) (bobs : List ByteArray) (L : List (List ByteArray)) (gl : Nat) : Prop where
  ri : ∀ v Vb W, MethAt W m v → Strs W Vb bobs → Calls Tryz.prog 27 #[m.v v, k.v, Vb] W fun e w' => ∃ A q vs, e = .returned (.tuple #[.slice A L.length q, .bool true]) ∧ OwnSV w' W.heap.size (.slice A L.length q) L vs ∧ ApartV vs ∧ Below W.heap.size W w'
  rs : ∀ v Vb W, MethAt W m v → Strs W Vb bobs → Calls Tryz.prog 28 #[m.v v, k.v, Vb] W fun e w' => ∃ A q vs, e = .returned (.tuple #[.slice A L.length q, .bool true]) ∧ OwnSV w' W.heap.size (.slice A L.length q) L vs ∧ ApartV vs ∧ Below W.heap.size W w'
  lg : ∀ v W, MethAt W m v → Calls Tryz.prog 11 #[m.v v, k.v] W fun e w' => ∃ A q, e = .returned (.tuple #[.slice A gl q, .bool true]) ∧ Below W.heap.size W w'
  rt : ∀ x ∈ L, ∃ (h t : ByteArray), x[0]? = some h ∧ (∀ v Vb W, MethAt W m v → Strs W Vb bobs → Calls Tryz.prog 29 #[m.v v, k.v, Vb, .string h] W fun e w' => e = .returned (.tuple #[.string t, .bool (decide (x.length ≤ 60))]) ∧ Below W.heap.size W w') ∧ (x.length ≤ 60 → t.size = x.length ∧ ∀ v W, MethAt W m v → Calls Tryz.prog 30 #[m.v v, k.v, .string t] W fun e w' => e = .returned (.tuple #[.bool true, .bool true]) ∧ Below W.heap.size W w')
  sum : (L.map List.length).sum = gl
  gb : gl ≤ 130
theorem ring_facts {m : Mt} {k : Cl} {bobs : List ByteArray} {n T : Nat} {P B B' Q : ByteArray} (hK : BK m k n T P B B' Q) (hF : (cloB n [P, B] T).length ≤ 130) (hbg : BG (sortB (cloB n [P, B] T)) bobs Q) (hs : MtSmall m) (hk : ClSmall k) : ∃ L gl, RF m k bobs L gl := by
  obtain ⟨RR, K, hO, hKb, hX⟩ := cx_all hK hF
  have hX := hX bobs hbg.2
  have hp := (bk_perm hK hbg.2).of_mem (fun x => sortB_mem (cloB n [P, B] T) x)
  have hnd := sortB_nodup (clo_nodup n [P, B] T)
  have hsum := rgs_sum (RR := RR bobs) hnd hp.1 hp.2 (fun x hx => (hX.hRR x hx).1) (fun x hx => ring_nodup hp.1 hp.2 hx (hX.hRR x hx).1) (sortB (cloB n [P, B] T)) [] (fun x hx => hx) (fun x hx => .inl hx) List.nodup_nil (fun x hx => by cases hx) (fun x hx h => by cases h)
  refine ⟨rgs (nxB bobs P B) (RR bobs) (sortB (cloB n [P, B] T)) [], (sortB (cloB n [P, B] T)).length, ⟨fun v Vb W hm hV => implRingsIn_yes m v k Vb n T K P B B' Q RR bobs W hK hF hbg hX hm hs hk hV, fun v Vb W hm hV => specRingsIn_yes m v k Vb n T K P B B' Q RR bobs W hK hF hbg hX hm hs hk hV, fun v W hm => (implLeadGroup_yes m v k n T P B B' Q W hK hF hm hs hk).mono fun e w' ⟨A, q, h1, _, h2⟩ => ⟨A, q, h1, h2⟩, fun x hx => ?_, by simpa using hsum, hX.hGl⟩⟩
  obtain ⟨h, hh, rfl⟩ := rgs_from _ _ _ _ x hx
  have hri := (bk_all hK).2.2 h ((sortB_mem _ _).1 hh)
  have hR := (hX.hRR h hh).1
  have hR1 := hR.1
  refine ⟨h, rtO (sortB (cloB n [P, B] T)) (nxB bobs P B) bobs h (RR bobs h), ?_, fun v Vb W hm hV => ?_, fun hle => ?_⟩
  · rw [List.getElem?_eq_getElem (by rw [ringL_len]; omega), ringL_get]
    rfl
  · have e := implRingTouchOf_yes m v k Vb n T K P B B' Q h (RR bobs) bobs W hK hF hbg hX hm hs hk hV
    rw [ringL_len]
    have e2 : rtB (sortB (cloB n [P, B] T)) h (RR bobs h) = decide (RR bobs h ≤ 60) := by unfold rtB; rw [decide_eq_true hh]; rfl
    rw [e2] at e
    exact e
  · rw [ringL_len] at hle ⊢
    have e2 : rtO (sortB (cloB n [P, B] T)) (nxB bobs P B) bobs h (RR bobs h) = ⟨(ringT (nxB bobs P B) bobs h (RR bobs h)).toArray⟩ := by
      unfold rtO rtB
      rw [decide_eq_true hh, decide_eq_true hle]; rfl
    rw [e2]
    have hsz : (⟨(ringT (nxB bobs P B) bobs h (RR bobs h)).toArray⟩ : ByteArray).size = RR bobs h := by
      show (ringT (nxB bobs P B) bobs h (RR bobs h)).toArray.size = _
      simp [ringT_len]
    refine ⟨hsz, fun v W hm => ?_⟩
    have e3 := isRound_yes m v k ⟨(ringT (nxB bobs P B) bobs h (RR bobs h)).toArray⟩ n W hK.cg hK.ok hm hs hk (by simpa using ringT_call (nxB bobs P B) bobs h hR1 hle) (by rw [hsz]; unfold maxLen; omega)
    rw [decide_eq_true (ring_round hK (hX.hit h hh) hri hR)] at e3
    exact e3
theorem ring_cases (m : Mt) (k : Cl) (bobs : List ByteArray) (hs : MtSmall m) (hk : ClSmall k) (hbl : bobs.length ≤ 100000000) :
    ((∀ v Vb W, MethAt W m v → Strs W Vb bobs → Calls Tryz.prog 27 #[m.v v, k.v, Vb] W fun e w' => ∃ A q, e = .returned (.tuple #[.slice A 0 q, .bool false]) ∧ Below W.heap.size W w') ∧ (∀ v Vb W, MethAt W m v → Strs W Vb bobs → Calls Tryz.prog 28 #[m.v v, k.v, Vb] W fun e w' => ∃ A q, e = .returned (.tuple #[.slice A 0 q, .bool false]) ∧ Below W.heap.size W w')) ∨
    ∃ L gl, RF m k bobs L gl := by
  rcases bob_cases m k bobs with hb | ⟨n, T, P, B, B', Q, hK, hF, hbg⟩
  · exact .inl ⟨fun v Vb W hm hV => (implRingsIn_no m v k Vb bobs W hb hm hs hk hV hbl).mono fun e w' ⟨A, q, vs, h1, _, _, h2⟩ => ⟨A, q, h1, h2⟩, fun v Vb W hm hV => (specRingsIn_no m v k Vb bobs W hb hm hs hk hV hbl).mono fun e w' ⟨A, q, vs, h1, _, _, h2⟩ => ⟨A, q, h1, h2⟩⟩
  · exact .inr (ring_facts hK hF hbg hs hk)
theorem touch_both (m : Mt) (k : Cl) (bobs : List ByteArray) (r : ByteArray) (hs : MtSmall m) (hk : ClSmall k) (hbl : bobs.length ≤ 100000000) : ∃ (t : ByteArray) (b : Bool),
    (∀ v Vb W, MethAt W m v → Strs W Vb bobs → Calls Tryz.prog 29 #[m.v v, k.v, Vb, .string r] W fun e w' => e = .returned (.tuple #[.string t, .bool b]) ∧ Below W.heap.size W w') ∧ (∀ v Vb W, MethAt W m v → Strs W Vb bobs → Calls Tryz.prog 32 #[m.v v, k.v, Vb, .string r] W fun e w' => e = .returned (.tuple #[.string t, .bool b]) ∧ Below W.heap.size W w') := by
  rcases bob_cases m k bobs with hb | ⟨n, T, P, B, B', Q, hK, hF, hbg⟩
  · exact ⟨_, _, fun v Vb W hm hV => implRingTouchOf_no m v k Vb bobs r W hb hm hs hk hV hbl, fun v Vb W hm hV => specRingTouchOf_no m v k Vb bobs r W hb hm hs hk hV hbl⟩
  · obtain ⟨RR, K, hO, hKb, hX⟩ := cx_all hK hF
    have hX := hX bobs hbg.2
    exact ⟨_, _, fun v Vb W hm hV => implRingTouchOf_yes m v k Vb n T K P B B' Q r (RR bobs) bobs W hK hF hbg hX hm hs hk hV, fun v Vb W hm hV => specRingTouchOf_yes m v k Vb n T K P B B' Q r (RR bobs) bobs W hK hF hbg hX hm hs hk hV⟩
theorem groups_both (m : Mt) (k : Cl) (hs : MtSmall m) (hk : ClSmall k) : ∃ (G : List ByteArray) (b : Bool),
    (∀ v W, MethAt W m v → Calls Tryz.prog 11 #[m.v v, k.v] W fun e w' => ∃ A q, e = .returned (.tuple #[.slice A G.length q, .bool b]) ∧ w'.ownsRow W.heap.size 9 1 (.slice A G.length q) G.length (G.map Value.string) ∧ Below W.heap.size W w') ∧ (∀ v W, MethAt W m v → Calls Tryz.prog 34 #[m.v v, k.v] W fun e w' => ∃ A q, e = .returned (.tuple #[.slice A G.length q, .bool b]) ∧ w'.ownsRow W.heap.size 9 1 (.slice A G.length q) G.length (G.map Value.string) ∧ Below W.heap.size W w') := by
  rcases blk_cases m k with hb | ⟨n, T, P, B, B', Q, hK, hF⟩
  · exact ⟨[], false, fun v W hm => implLeadGroup_no m v k W hb hm hs hk, fun v W hm => specLeadGroup_no m v k W hb hm hs hk⟩
  · exact ⟨_, _, fun v W hm => implLeadGroup_yes m v k n T P B B' Q W hK hF hm hs hk, fun v W hm => specLeadGroup_yes m v k n T P B B' Q W hK hF hm hs hk⟩
end Go.Proofs.YtheppimoncokcaaGreat
