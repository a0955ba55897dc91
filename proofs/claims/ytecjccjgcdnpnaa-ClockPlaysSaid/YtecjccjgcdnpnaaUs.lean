/- Contracts of the functions of the package usage and of its reference. -/
import Derived.Test.YtecjccjgcdnpnaaMem
import Derived.OwnWalk
import Derived.Laws.MakeOwn
namespace Go.Proofs.Ytecjccjgcdnpnaa
open Go.RowKit
set_option linter.unusedSimpArgs false
set_option linter.unusedVariables false
attribute [local go_sem] field25 field25_0 field25_2

/-- The slice value with address A reads as the list xs. -/
def Rd (w : World) (A : Option Addr) (xs : List Int) : Prop :=
  xs = [] ∨ ∃ b o, A = some ⟨b, o, none⟩ ∧ ∀ i, i < xs.length → w.cell? ⟨b, o + i, none⟩ = some (.int .i64 (xs.getD i 0))
def SL (w : World) (v : Value) (xs : List Int) : Prop := ∃ A c, v = .slice A xs.length c ∧ Rd w A xs ∧ xs.length ≤ c

def IsRow (w : World) (a : Option Addr) (len cap : Nat) (zs : List Int) : Prop :=
  (a = none ∧ len = 0 ∧ cap = 0 ∧ zs = []) ∨
  ∃ x, a = some x ∧ len ≤ cap ∧ cap ≤ maxLen ∧ zs.length = cap ∧ (∀ i, i < zs.length → w.cell? (x.add i) = some (.int .i64 (zs.getD i 0))) ∧ ∀ n ∈ zs, (Lit.int .i64 n).wf = true

section
variable {w w' : World} {A : Option Addr} {xs : List Int}
theorem rd_nil : Rd w A [] := .inl rfl
theorem rd_keep (h : Rd w A xs) (hb : Below w.heap.size w w') : Rd w' A xs := by
  rcases h with h | ⟨b, o, hA, h⟩
  · exact .inl h
  · exact .inr ⟨b, o, hA, fun i hi => bel_keep hb (h i hi)⟩
theorem rd_drewN (h : Rd w A xs) (n : Nat) : Rd (w.drewN n) A xs := h
theorem rd_at (h : Rd w A xs) {k : Nat} (hk : k < xs.length) : ∃ b o v, A = some ⟨b, o, none⟩ ∧ xs[k]? = some v ∧ w.cell? ⟨b, o + k, none⟩ = some (.int .i64 v) := by
  rcases h with h | ⟨b, o, hA, h⟩
  · subst h; simp at hk
  · refine ⟨b, o, xs[k], hA, List.getElem?_eq_getElem hk, ?_⟩
    have := h k hk
    rw [this]
    simp [List.getD, List.getElem?_eq_getElem hk]
theorem sl_keep {v : Value} (h : SL w v xs) (hb : Below w.heap.size w w') : SL w' v xs := by
  obtain ⟨A, c, hv, hr, hc⟩ := h
  exact ⟨A, c, hv, rd_keep hr hb, hc⟩

theorem add_off {b o : Nat} {n i : Nat} (s : Option Nat) (hs : s = none) : (Addr.add ⟨b, o, s⟩ i) = ⟨b, o + i, none⟩ := by
  subst hs
  unfold Addr.add
  split
  · rename_i h; subst h; rfl
  · rfl

theorem rd_of_row {a : Option Addr} {len cap : Nat} {zs : List Int} (h : IsRow w a len cap zs) : Rd w a (zs.take len) ∧ (zs.take len).length = len ∧ len ≤ cap ∧ cap ≤ maxLen := by
  rcases h with ⟨rfl, rfl, rfl, rfl⟩ | ⟨x, rfl, hl, hm, hz, hc, _⟩
  · exact ⟨.inl rfl, rfl, Nat.le_refl _, by unfold maxLen; omega⟩
  · refine ⟨?_, by simp; omega, hl, hm⟩
    by_cases h0 : len = 0
    · subst h0; exact .inl (by simp)
    · right
      obtain ⟨b, o, sp⟩ := x
      have hs : sp = none := by
        have := hc 0 (by omega)
        simp only [Addr.add, if_true] at this
        cases sp with
        | none => rfl
        | some y => simp [World.cell?] at this; split at this <;> simp at this
      refine ⟨b, o, by rw [hs], fun i hi => ?_⟩
      have hi2 : i < len := by simp at hi; omega
      have := hc i (by omega)
      rw [add_off (n := 0) sp hs] at this
      rw [this]
      simp [List.getD, List.getElem?_take, hi2]
end

def iv (xs : List Int) : Array Value := (xs.map (Value.int .i64)).toArray
theorem iv_get (xs : List Int) (i : Nat) : (iv xs)[i]? = (xs[i]?).map (Value.int .i64) := by simp [iv]
theorem iv_set (xs : List Int) (i : Nat) (v : Int) : (iv xs).setIfInBounds i (.int .i64 v) = iv (xs.set i v) := by
  simp [iv, List.map_set]
theorem iv_size (xs : List Int) : (iv xs).size = xs.length := by simp [iv]
theorem iv_made (n : Nat) : madeCells #[Value.int .i64 0] n = iv (List.replicate n 0) := by
  apply Array.ext_getElem?
  intro i
  rw [iv_get]
  simp only [madeCells, Array.getElem?_map]
  by_cases h : i < n
  · rw [Array.getElem?_eq_getElem (by simpa using h), List.getElem?_eq_getElem (by simpa using h)]
    simp [Nat.mod_one]
  · rw [Array.getElem?_eq_none (by simpa using h), List.getElem?_eq_none (by simpa using h)]
    rfl
theorem rd_of_blk {w : World} {g : Nat} {xs : List Int} (h : Blk w g 3 (iv xs)) : Rd w (some ⟨g, 0, none⟩) xs := by
  by_cases h0 : xs = []
  · exact .inl h0
  · refine .inr ⟨g, 0, rfl, fun i hi => ?_⟩
    rw [Nat.zero_add, blk_cell h i, iv_get, List.getElem?_eq_getElem hi]
    simp [List.getD, List.getElem?_eq_getElem hi]

def cnt (p s l f : Int) (ps : List Int) (k : Nat) : Nat := (ps.filter fun x => inB p s l f x && (ofS p s l f x == (k : Int))).length
def liveL (p s l f : Int) (ps : List Int) : List Int := if goodB p s l f = true then (List.range s.toNat).map (fun k => (cnt p s l f ps k : Int)) else []

theorem liveL_length {p s l f : Int} (ps : List Int) (hg : goodB p s l f = true) : (liveL p s l f ps).length = s.toNat := by simp [liveL, hg]
theorem liveL_get {p s l f : Int} (ps : List Int) (hg : goodB p s l f = true) (k : Nat) (hk : k < s.toNat) : (liveL p s l f ps)[k]? = some (cnt p s l f ps k : Int) := by
  simp [liveL, hg, hk]
theorem liveL_nil {p s l f : Int} (hg : goodB p s l f = true) : liveL p s l f [] = List.replicate s.toNat 0 := by
  simp only [liveL, hg, if_true, cnt]
  apply List.ext_getElem?
  intro i
  by_cases h : i < s.toNat <;> simp [h]
theorem cnt_le (p s l f : Int) (ps : List Int) (k : Nat) : cnt p s l f ps k ≤ ps.length := List.length_filter_le _ _
theorem cnt_snoc (p s l f : Int) (ps : List Int) (x : Int) (k : Nat) : cnt p s l f (ps ++ [x]) k = cnt p s l f ps k + (if inB p s l f x = true ∧ ofS p s l f x = k then 1 else 0) := by
  unfold cnt
  rw [List.filter_append, List.length_append]
  by_cases h : inB p s l f x = true ∧ ofS p s l f x = k
  · simp [h.1, h.2]
  · rw [if_neg h]
    by_cases h1 : inB p s l f x = true
    · have h2 : ¬ ofS p s l f x = k := fun e => h ⟨h1, e⟩
      simp [h1, h2]
    · simp [h1]
theorem ofS_range {p s l f n : Int} (h : inB p s l f n = true) : 0 ≤ ofS p s l f n ∧ ofS p s l f n < s := by
  obtain ⟨hg, hn1, hn2⟩ := inB_true h
  obtain ⟨h1, h2, h3, h4, h5, h6, h7, h8⟩ := goodB_iff.1 hg
  simp only [ofS, h, if_true]
  refine ⟨Int.ediv_nonneg (by omega) (by omega), Int.ediv_lt_of_lt_mul (by omega) (by omega)⟩
theorem liveL_out {p s l f : Int} (ps : List Int) (x : Int) (h : inB p s l f x = false) : liveL p s l f (ps ++ [x]) = liveL p s l f ps := by
  unfold liveL
  split
  · congr 1; funext k; rw [cnt_snoc]; simp [h]
  · rfl
theorem liveL_in {p s l f : Int} (ps : List Int) (x : Int) (h : inB p s l f x = true) :
    liveL p s l f (ps ++ [x]) = (liveL p s l f ps).set (ofS p s l f x).toNat ((cnt p s l f ps (ofS p s l f x).toNat : Int) + 1) := by
  have hg := (inB_true h).1
  obtain ⟨h0, h1⟩ := ofS_range h
  apply List.ext_getElem?
  intro i
  rw [List.getElem?_set]
  by_cases hi : i < s.toNat
  · rw [liveL_get _ hg i hi, liveL_get _ hg i hi, cnt_snoc]
    by_cases he : (ofS p s l f x).toNat = i
    · subst he
      rw [if_pos rfl, if_pos ⟨h, by omega⟩, if_pos (by rw [liveL_length _ hg]; exact hi)]
      simp
    · rw [if_neg he, if_neg (by rintro ⟨_, e⟩; omega)]
      simp
  · rw [List.getElem?_eq_none (by rw [liveL_length _ hg]; omega), List.getElem?_eq_none (by rw [liveL_length _ hg]; omega)]
    by_cases he : (ofS p s l f x).toNat = i
    · omega
    · rw [if_neg he]

theorem info3 : (Try.prog.info? 3).map (fun i => (i.zero, i.size, i.bytes)) = some (some (.int .i64 0), 1, 8) := by kernel_rfl

theorem take_snoc (xs : List Int) (k : Nat) (v : Int) (h : xs[k]? = some v) : xs.take (k + 1) = xs.take k ++ [v] := by
  have hk : k < xs.length := (List.getElem?_eq_some_iff.1 h).1
  rw [List.take_succ_eq_append_getElem hk]
  rw [List.getElem?_eq_getElem hk] at h
  simp at h
  rw [h]

set_option maxRecDepth 100000 in
set_option maxHeartbeats 1000000 in
theorem count27 (p s l f : Int) (A : Option Addr) (c : Nat) (ps : List Int) (w : World) (hr : Rd w A ps) (hlen : ps.length ≤ 1000) :
    Calls Try.prog 27 #[gv p s l f, .slice A ps.length c] w fun e w' => ∃ v, e = .returned v ∧ SL w' v (liveL p s l f ps) ∧ Below w.heap.size w w' := by
  by_cases hg : goodB p s l f = true
  · obtain ⟨h1, h2, h3, h4, h5, h6, h7, h8⟩ := goodB_iff.1 hg
    obtain ⟨n, rfl⟩ := Int.eq_ofNat_of_zero_le (show 0 ≤ s by omega)
    have HG := Lib.hid hg
    clear hg
    have hmk := fun W => run_make_row' (P := Try.prog) 37 3 (.int .i64 0) 8 Try.underlying37 info3 rfl .i64 .i64 n (by omega) (by omega) W
    go_enter Try.func27, Try.ntmps27
    go_wp2_with fail
    refine (good17 p n l f _).mono ?_
    rintro e w1 ⟨rfl, hb1⟩
    have B0 : Blk w1 w.heap.size 23 #[.int .i64 p, .int .i64 n, .int .i64 l, .int .i64 f] := blk_keep (blk_new w _ _) hb1
    have HB := bel_step (bel_box w _) hb1
    have hR := rd_keep hr HB
    clear hb1 hr
    have x1 : w1.cell? ⟨w.heap.size, 1, none⟩ = some (.int .i64 n) := by rw [blk_cell B0 1]; rfl
    rw [HG.out]
    go_wp2_with fail
    have HR := Lib.hid hR
    clear hR
    have C0 : Blk (w1.alloc (.cells (madeCells #[Value.int .i64 0] n) 3)) w1.heap.size 3 (iv (liveL p n l f (ps.take 0))) := by
      have := blk_new w1 3 (madeCells #[Value.int .i64 0] n)
      rw [List.take_zero, liveL_nil HG.out, Int.toNat_natCast, ← iv_made]
      exact this
    have hz1 := blk_lt B0
    go_loopg [19] ps.length (fun gk s19 wr => ∃ k : Nat, k ≤ ps.length ∧ gk = ps.length - k ∧ s19 = .int .i64 k ∧ Blk wr w1.heap.size 3 (iv (liveL p n l f (ps.take k))) ∧ Blk wr w.heap.size 23 #[.int .i64 p, .int .i64 n, .int .i64 l, .int .i64 f] ∧ Below w.heap.size w wr ∧ Below w1.heap.size w1 wr)
    case atStart => exact ⟨0, Nat.zero_le _, rfl, rfl, C0, blk_alloc B0 _, bel_new HB _, bel_box _ _⟩
    case round =>
      clear B0 HB x1 C0
      obtain ⟨k, hk, hgk, rfl, C0, B0, HB, HB1⟩ := hrel
      by_cases hlt : k < ps.length
      · obtain ⟨b, o, v, rfl, hv, hc⟩ := rd_at (rd_keep HR.out HB1) hlt
        have HV := Lib.hid hv
        clear hv
        have x0 := blk_cell B0 0
        have x1 := blk_cell B0 1
        have x2 := blk_cell B0 2
        have x3 := blk_cell B0 3
        simp at x0 x1 x2 x3
        go_wp2_with fail
        refine (of16 p n l f v _).mono ?_
        rintro e w2 ⟨rfl, hb2⟩
        have B2 := blk_keep B0 hb2
        have C2 := blk_keep C0 hb2
        have HB2 := bel_step HB hb2
        have HB12 := bel_step HB1 hb2
        clear hb2 B0 C0 HB HB1 x0 x1 x2 x3 hc
        rcases Bool.eq_false_or_eq_true (inB p n l f v) with hi | hi
        · obtain ⟨q0, q1⟩ := ofS_range hi
          obtain ⟨j, hj⟩ := Int.eq_ofNat_of_zero_le q0
          rw [hj] at q1
          have hL := liveL_in (ps.take k) v hi
          rw [hj, Int.toNat_natCast, ← take_snoc ps k v HV.out] at hL
          have HL := Lib.hid hL
          have hcn : cnt p n l f (ps.take k) j ≤ 1000 := Nat.le_trans (cnt_le _ _ _ _ _ _) (by simp; omega)
          have hjn : j < n := by omega
          have hcell : w2.cell? ⟨w1.heap.size, j, none⟩ = some (.int .i64 (cnt p n l f (ps.take k) j : Int)) := by
            rw [blk_cell C2 j, iv_get, liveL_get _ HG.out j (by simpa using hjn)]; rfl
          have hfz := blk_froz C2 j
          rw [hi, hj]
          clear hi hj hL
          go_wp2_with fail
          go_roundg (ps.length - (k + 1))
          case measure => omega
          case rel =>
            refine ⟨k + 1, by omega, rfl, by go_num, ?_, blk_far B2 (by simp; omega) _, bel_set HB2 _ _ (by simp; omega), bel_set HB12 _ _ (by simp)⟩
            have := blk_set C2 j (.int .i64 ((cnt p n l f (ps.take k) j : Int) + 1))
            rw [iv_set] at this
            rw [HL.out]
            exact this
        · have hL := liveL_out (ps.take k) v hi
          rw [← take_snoc ps k v HV.out] at hL
          have HL := Lib.hid hL
          rw [hi]
          clear hi hL
          go_wp2_with fail
          go_roundg (ps.length - (k + 1))
          case measure => omega
          case rel => exact ⟨k + 1, by omega, rfl, by go_num, by rw [HL.out]; exact C2, B2, HB2, HB12⟩
      · have hkl : k = ps.length := by omega
        have HK := Lib.hid hkl
        clear hkl
        go_wp2_with fail
        go_ret
        have C1 := C0
        rw [HK.out, List.take_length] at C1
        exact ⟨_, rfl, ⟨some ⟨w1.heap.size, 0, none⟩, n, by rw [liveL_length _ HG.out]; rfl, rd_of_blk C1, by rw [liveL_length _ HG.out]; simp⟩, HB⟩
  · have hg : goodB p s l f = false := by simpa using hg
    have HG := Lib.hid hg
    clear hg
    go_enter Try.func27, Try.ntmps27
    go_wp2_with fail
    refine (good17 p s l f _).mono ?_
    rintro e w1 ⟨rfl, hb1⟩
    rw [HG.out]
    go_wp2_with fail
    go_ret
    exact ⟨_, rfl, ⟨none, 0, by simp [liveL, HG.out], by simp [liveL, HG.out]; exact rd_nil, by simp [liveL, HG.out]⟩, bel_step (bel_box w _) hb1⟩

theorem three_set {w9 : World} {g : Nat} {t : TypeId} {a b c x y z : Value} (h : Blk w9 g t #[a, b, c]) :
    Blk (((w9.setCell ⟨g, 0, none⟩ x).setCell ⟨g, 1, none⟩ y).setCell ⟨g, 2, none⟩ z) g t #[x, y, z] := blk_set (blk_set (blk_set h 0 x) 1 y) 2 z

set_option maxRecDepth 100000 in
set_option maxHeartbeats 1000000 in
theorem count28 (p s l f : Int) (A : Option Addr) (c : Nat) (ps : List Int) (w : World) (hr : Rd w A ps) (hlen : ps.length ≤ 1000) :
    Calls Try.prog 28 #[gv p s l f, .slice A ps.length c] w fun e w' => ∃ v, e = .returned v ∧ SL w' v (liveL p s l f ps) ∧ Below w.heap.size w w' := by
  by_cases hg : goodB p s l f = true
  · obtain ⟨h1, h2, h3, h4, h5, h6, h7, h8⟩ := goodB_iff.1 hg
    obtain ⟨n, rfl⟩ := Int.eq_ofNat_of_zero_le (show 0 ≤ s by omega)
    have HG := Lib.hid hg
    clear hg
    have hmk := fun W => run_make_row' (P := Try.prog) 37 3 (.int .i64 0) 8 Try.underlying37 info3 rfl .i64 .i64 n (by omega) (by omega) W
    go_enter Try.func28, Try.ntmps28
    go_wp2_with fail
    refine (good18 p n l f _).mono ?_
    rintro e w1 ⟨rfl, hb1⟩
    have B0 : Blk w1 w.heap.size 23 #[.int .i64 p, .int .i64 n, .int .i64 l, .int .i64 f] := blk_keep (blk_new w _ _) hb1
    have HB := bel_step (bel_box w _) hb1
    have hR := rd_keep hr HB
    clear hb1 hr
    have x1 : w1.cell? ⟨w.heap.size, 1, none⟩ = some (.int .i64 n) := by rw [blk_cell B0 1]; rfl
    rw [HG.out]
    go_wp2_with fail
    have HR := Lib.hid hR
    clear hR
    have C0 : Blk (w1.alloc (.cells (madeCells #[Value.int .i64 0] n) 3)) w1.heap.size 3 (iv (liveL p n l f (ps.take 0))) := by
      have := blk_new w1 3 (madeCells #[Value.int .i64 0] n)
      rw [List.take_zero, liveL_nil HG.out, Int.toNat_natCast, ← iv_made]
      exact this
    have hz1 := blk_lt B0
    go_loopg [6] ps.length (fun gk s6 wr => ∃ k : Nat, k ≤ ps.length ∧ gk = ps.length - k ∧ s6 = .int .i64 k ∧ Blk wr w1.heap.size 3 (iv (liveL p n l f (ps.take k))) ∧ Blk wr w.heap.size 23 #[.int .i64 p, .int .i64 n, .int .i64 l, .int .i64 f] ∧ Below w.heap.size w wr ∧ Below w1.heap.size w1 wr)
    case atStart => exact ⟨0, Nat.zero_le _, rfl, rfl, C0, blk_alloc B0 _, bel_new HB _, bel_box _ _⟩
    case round =>
      clear B0 HB x1 C0
      obtain ⟨k, hk, hgk, rfl, C0, B0, HB, HB1⟩ := hrel
      by_cases hlt : k < ps.length
      · obtain ⟨b, o, v, rfl, hv, hc⟩ := rd_at (rd_keep HR.out HB1) hlt
        have HV := Lib.hid hv
        clear hv
        have x0 := blk_cell B0 0
        have x1 := blk_cell B0 1
        have x2 := blk_cell B0 2
        have x3 := blk_cell B0 3
        simp at x0 x1 x2 x3
        go_wp2_with fail
        go_cut [7] (fun s7 wx => ∃ g : Nat, s7 = .pointer (some ⟨g, 0, none⟩) ∧ Blk wx g 28 #[.int .i64 (ofS p n l f v), .int .i64 (ofO p n l f v), .bool (inB p n l f v)] ∧ wr.heap.size ≤ g ∧ Below wr.heap.size wr wx)
        case first =>
          have hk0 : (0 : Int) ≤ (k : Int) := Int.natCast_nonneg _
          have hk1 : (k : Int) < (ps.length : Int) := by omega
          have hl1 := World.block_lt_of_cell? wr _ hc
          have hl2 := World.block_lt_of_cell? wr _ x0
          simp at hl1 hl2
          first
            | go_region_with (go_at_call 15; refine (where15 p n l f v _).mono ?_; rintro e w9 ⟨rfl, hb2⟩; obtain ⟨hc2, hf2⟩ := bcell hb2; have hz9 := hb2.size; simp at hz9)
            | fail
          all_goals go_wp2_with fail
          all_goals go_meet
          all_goals first
            | ((with_reducible refine ⟨w9.heap.size, rfl, ?_, ?_, ?_⟩); (exact blk_new _ _ _); (exact hb2.size); (exact bel_new (bel_step (bel_draw1 (Below.refl _ _)) hb2) _))
            | ((with_reducible refine ⟨wr.heap.size, rfl, ?_, ?_, ?_⟩); (exact three_set (blk_keep (blk_drew (blk_new wr 28 _)) hb2)); (exact Nat.le_refl _); (exact bel_set (bel_set (bel_set (bel_step (bel_draw1 (bel_box wr _)) hb2) _ _ (Nat.le_refl _)) _ _ (Nat.le_refl _)) _ _ (Nat.le_refl _)))
        case rest =>
          obtain ⟨g, rfl, G, hg0, hb2⟩ := hcut
          have B2 := blk_keep B0 hb2
          have C2 := blk_keep C0 hb2
          have HB2 := bel_step HB hb2
          have HB12 := bel_step HB1 hb2
          have hz2 := blk_lt C0
          have hz3 := blk_lt B0
          clear hb2 B0 C0 HB HB1 x0 x1 x2 x3 hc
          rcases Bool.eq_false_or_eq_true (inB p n l f v) with hi | hi
          · obtain ⟨q0, q1⟩ := ofS_range hi
            obtain ⟨j, hj⟩ := Int.eq_ofNat_of_zero_le q0
            rw [hj] at q1
            have hL := liveL_in (ps.take k) v hi
            rw [hj, Int.toNat_natCast, ← take_snoc ps k v HV.out] at hL
            have HL := Lib.hid hL
            have hcn : cnt p n l f (ps.take k) j ≤ 1000 := Nat.le_trans (cnt_le _ _ _ _ _ _) (by simp; omega)
            have hjn : j < n := by omega
            have hcell : wc.cell? ⟨w1.heap.size, j, none⟩ = some (.int .i64 (cnt p n l f (ps.take k) j : Int)) := by
              rw [blk_cell C2 j, iv_get, liveL_get _ HG.out j (by simpa using hjn)]; rfl
            have hfz := blk_froz C2 j
            rw [hi, hj] at G
            have y0 : wc.cell? ⟨g, 0, none⟩ = _ := blk_cell G 0
            have y2 : wc.cell? ⟨g, 2, none⟩ = _ := blk_cell G 2
            simp at y0 y2
            clear hi hj hL G
            go_wp2_with fail
            go_roundg (ps.length - (k + 1))
            case measure => omega
            case rel =>
              refine ⟨k + 1, by omega, rfl, by go_num, ?_, blk_far B2 (by simp; omega) _, bel_set HB2 _ _ (by simp; omega), bel_set HB12 _ _ (by simp)⟩
              have := blk_set C2 j (.int .i64 ((cnt p n l f (ps.take k) j : Int) + 1))
              rw [iv_set] at this
              rw [HL.out]
              exact this
          · have hL := liveL_out (ps.take k) v hi
            rw [← take_snoc ps k v HV.out] at hL
            have HL := Lib.hid hL
            rw [hi] at G
            have y2 : wc.cell? ⟨g, 2, none⟩ = _ := blk_cell G 2
            simp at y2
            clear hi hL G
            go_wp2_with fail
            go_roundg (ps.length - (k + 1))
            case measure => omega
            case rel => exact ⟨k + 1, by omega, rfl, by go_num, by rw [HL.out]; exact C2, B2, HB2, HB12⟩
      · have hkl : k = ps.length := by omega
        have HK := Lib.hid hkl
        clear hkl
        go_wp2_with fail
        go_ret
        have C1 := C0
        rw [HK.out, List.take_length] at C1
        exact ⟨_, rfl, ⟨some ⟨w1.heap.size, 0, none⟩, n, by rw [liveL_length _ HG.out]; rfl, rd_of_blk C1, by rw [liveL_length _ HG.out]; simp⟩, HB⟩
  · have hg : goodB p s l f = false := by simpa using hg
    have HG := Lib.hid hg
    clear hg
    go_enter Try.func28, Try.ntmps28
    go_wp2_with fail
    refine (good18 p s l f _).mono ?_
    rintro e w1 ⟨rfl, hb1⟩
    rw [HG.out]
    go_wp2_with fail
    go_ret
    exact ⟨_, rfl, ⟨none, 0, by simp [liveL, HG.out], by simp [liveL, HG.out]; exact rd_nil, by simp [liveL, HG.out]⟩, bel_step (bel_box w _) hb1⟩

theorem eq_of_get {xs ys : List Int} (hl : xs.length = ys.length) (h : ∀ i, i < xs.length → xs[i]? = ys[i]?) : xs = ys := by
  apply List.ext_getElem? 
  intro i
  by_cases hi : i < xs.length
  · exact h i hi
  · rw [List.getElem?_eq_none (by omega), List.getElem?_eq_none (by omega)]

set_option maxRecDepth 100000 in
set_option maxHeartbeats 1000000 in
theorem ints26 (A B : Option Addr) (c d : Nat) (xs ys : List Int) (w : World) (hx : Rd w A xs) (hy : Rd w B ys) (hl : xs.length ≤ 1000) (hl2 : ys.length ≤ 9223372036854775807) :
    Calls Try.prog 26 #[.slice A xs.length c, .slice B ys.length d] w fun e w' => e = .returned (.bool (decide (xs = ys))) ∧ Below w.heap.size w w' := by
  by_cases hlen : xs.length = ys.length
  · have e1 : ((xs.length : Int) != (ys.length : Int)) = false := by simp [hlen]
    have HL := Lib.hid hlen
    have HX := Lib.hid hx
    have HY := Lib.hid hy
    clear hlen hx hy
    go_enter Try.func26, Try.ntmps26
    go_wp2_with fail
    clear e1
    go_loopg [5] xs.length (fun gk s5 wr => ∃ k : Nat, k ≤ xs.length ∧ gk = xs.length - k ∧ s5 = .int .i64 k ∧ (∀ i, i < k → xs[i]? = ys[i]?) ∧ Below w.heap.size w wr)
    case atStart => exact ⟨0, Nat.zero_le _, rfl, rfl, fun i hi => absurd hi (by omega), Below.refl _ _⟩
    case round =>
      obtain ⟨k, hk, hgk, rfl, hpre, HB⟩ := hrel
      have HP := Lib.hid hpre
      clear hpre
      by_cases hlt : k < xs.length
      · have hlt2 : k < ys.length := by rw [← HL.out]; exact hlt
        obtain ⟨b, o, v, rfl, hv, hc⟩ := rd_at (rd_keep HX.out HB) hlt
        obtain ⟨b', o', u, rfl, hu, hc'⟩ := rd_at (rd_keep HY.out HB) hlt2
        have HV := Lib.hid hv
        have HU := Lib.hid hu
        clear hv hu
        have q0 : (0 : Int) ≤ (k : Int) := Int.natCast_nonneg _
        have q1 : (k : Int) < (xs.length : Int) := by omega
        have q2 : (k : Int) < (ys.length : Int) := by omega
        by_cases huv : v = u
        · have hq : (v != u) = false := by simp [huv]
          have HQ := Lib.hid huv
          clear huv
          go_wp2_with fail
          go_quiet (fail)
          go_wp2_with fail
          go_roundg (xs.length - (k + 1))
          case measure => omega
          case rel =>
            refine ⟨k + 1, by omega, rfl, by go_num, fun i hi => ?_, bel_draw HB _⟩
            by_cases hik : i < k
            · exact HP.out i hik
            · obtain rfl : i = k := by omega
              rw [HV.out, HU.out, HQ.out]
        · have hq : (v != u) = true := by simp [huv]
          have hne : decide (xs = ys) = false := by
            rw [decide_eq_false_iff_not]
            intro e
            have := HV.out
            rw [e, HU.out] at this
            exact huv (Option.some.inj this).symm
          have HN := Lib.hid hne
          clear hne huv
          go_wp2_with fail
          go_quiet (fail)
          go_wp2_with fail
          go_ret
          exact ⟨ret_bool HN.out.symm, bel_draw HB _⟩
      · have hkl : k = xs.length := by omega
        have he : decide (xs = ys) = true := by
          rw [decide_eq_true_eq]
          refine eq_of_get HL.out fun i hi => HP.out i (by omega)
        have HE := Lib.hid he
        have HK := Lib.hid hkl
        clear he hkl
        go_wp2_with fail
        go_ret
        exact ⟨ret_bool HE.out.symm, HB⟩
  · have e1 : ((xs.length : Int) != (ys.length : Int)) = true := by simp; omega
    have hne : decide (xs = ys) = false := by
      rw [decide_eq_false_iff_not]
      intro e
      exact hlen (by rw [e])
    have HN := Lib.hid hne
    clear hne hlen hx hy
    go_enter Try.func26, Try.ntmps26
    go_wp2_with fail
    go_ret
    exact ⟨ret_bool HN.out.symm, Below.refl _ _⟩
end Go.Proofs.Ytecjccjgcdnpnaa
