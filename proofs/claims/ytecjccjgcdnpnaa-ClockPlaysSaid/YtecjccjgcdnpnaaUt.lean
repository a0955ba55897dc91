/- Contracts of Free and Sum, and the waking of the laws of usage. -/
import Derived.Test.YtecjccjgcdnpnaaUs
import Derived.Deep.AppendLies
import Derived.Maps.AppendAt
namespace Go.Proofs.Ytecjccjgcdnpnaa
open Go.RowKit
set_option linter.unusedSimpArgs false
set_option linter.unusedVariables false

def isFree (xs : List Int) (h : Int) (i : Nat) : Bool := (xs.getD i 0 == 0) && !((i : Int) == h)
def freeTo (xs : List Int) (h : Int) (k : Nat) : List Int := ((List.range k).filter (isFree xs h)).map fun i : Nat => (i : Int)
def freeL (xs : List Int) (h : Int) : List Int := freeTo xs h xs.length

theorem freeTo_len (xs : List Int) (h : Int) (k : Nat) : (freeTo xs h k).length ≤ k := by
  unfold freeTo
  rw [List.length_map]
  exact Nat.le_trans (List.length_filter_le _ _) (by simp)
theorem freeTo_yes {xs : List Int} {h : Int} {k : Nat} (hf : isFree xs h k = true) : freeTo xs h (k + 1) = freeTo xs h k ++ [(k : Int)] := by
  simp [freeTo, List.range_succ, hf]
theorem freeTo_no {xs : List Int} {h : Int} {k : Nat} (hf : isFree xs h k = false) : freeTo xs h (k + 1) = freeTo xs h k := by
  simp [freeTo, List.range_succ, hf]

theorem sl_of_own {w : World} {base : Nat} {v : Value} {xs : List Int} (h : w.ownsRow base 3 1 v xs.length (xs.map (Value.int .i64))) : SL w v xs := by
  rcases h.2 with ⟨rfl, h0⟩ | ⟨g, cap, cur, rfl, _, hh, hn, _, hs, ht⟩
  · have hx : xs = [] := List.eq_nil_of_length_eq_zero h0
    subst hx
    exact ⟨none, 0, rfl, rd_nil, Nat.le_refl _⟩
  · refine ⟨some ⟨g, 0, none⟩, cap, rfl, ?_, hn⟩
    by_cases h0 : xs = []
    · exact .inl h0
    · refine .inr ⟨g, 0, rfl, fun i hi => ?_⟩
      rw [Nat.zero_add]
      have h1 : (cur.toList.take (xs.length * 1))[i]? = (xs.map (Value.int .i64))[i]? := by rw [ht]
      rw [List.getElem?_take, if_pos (by omega)] at h1
      simp only [World.cell?, hh]
      simp at h1 ⊢
      rw [h1]
      simp [List.getElem?_eq_getElem hi]

theorem own_base {w : World} {base : Nat} {v : Value} {n : Nat} {xs : List Value} (h : w.ownsRow base 3 1 v n xs) : ∀ k, v.ownBlock = some k → base ≤ k := by
  rcases h.2 with ⟨rfl, _⟩ | ⟨g, cap, cur, rfl, hb, _⟩
  · intro k hk; simp [Value.ownBlock] at hk
  · intro k hk
    simp [Value.ownBlock] at hk
    omega

set_option maxRecDepth 100000 in
set_option maxHeartbeats 1000000 in
theorem free29 (A : Option Addr) (c : Nat) (xs : List Int) (h : Int) (w : World) (hr : Rd w A xs) (hl : xs.length ≤ 1000) :
    Calls Try.prog 29 #[.slice A xs.length c, .int .i64 h] w fun e w' => ∃ v, e = .returned v ∧ SL w' v (freeL xs h) ∧ Below w.heap.size w w' := by
  obtain ⟨i0, hi0, hz0, hz1, hz2⟩ := info_parts info3
  have HI := Lib.hid (And.intro hi0 (And.intro hz0 (And.intro hz1 hz2)))
  clear hi0 hz0 hz1 hz2
  have HR := Lib.hid hr
  clear hr
  go_enter Try.func29, Try.ntmps29
  go_wp2_with fail
  go_loopg [5, 10] xs.length (fun gk s5 s10 wr => ∃ k : Nat, k ≤ xs.length ∧ gk = xs.length - k ∧ s10 = .int .i64 k ∧ wr.ownsRow w.heap.size 3 1 s5 (freeTo xs h k).length ((freeTo xs h k).map (Value.int .i64)) ∧ Below w.heap.size w wr)
  case atStart => exact ⟨0, Nat.zero_le _, rfl, rfl, ⟨rfl, .inl ⟨rfl, rfl⟩⟩, Below.refl _ _⟩
  case round =>
    obtain ⟨k, hk, hgk, rfl, hown, HB⟩ := hrel
    have HO := Lib.hid hown
    clear hown
    have hfl := freeTo_len xs h k
    by_cases hlt : k < xs.length
    · obtain ⟨b, o, v, rfl, hv, hc⟩ := rd_at (rd_keep HR.out HB) hlt
      have hg : xs.getD k 0 = v := by simp [List.getD, hv]
      have HG := Lib.hid hg
      clear hv hg
      by_cases h1 : (k : Int) = h
      · have hq : ((k : Int) == h) = true := by simp [h1]
        have hf := freeTo_no (xs := xs) (h := h) (k := k) (by simp [isFree, h1])
        have HF := Lib.hid hf
        clear h1 hf
        go_wp2_with fail
        go_roundg (xs.length - (k + 1))
        case measure => omega
        case rel => exact ⟨k + 1, by omega, rfl, by go_num, by rw [HF.out]; exact HO.out, HB⟩
      · have hq : ((k : Int) == h) = false := by simp [h1]
        by_cases h2 : v = 0
        · have hq2 : (v != 0) = false := by simp [h2]
          have hf := freeTo_yes (xs := xs) (h := h) (k := k) (by rw [isFree, HG.out, h2]; simp [h1])
          have HF := Lib.hid hf
          clear h1 h2 hf
          have HOA := Lib.hid (HO.out.alloc (.cells #[.int .i64 k] 3))
          go_wp2_with (at_builtin; go_must (refine wpList_append_own _ rfl (.tmp 22) (.tmp 24) 37 rfl w.heap.size 3 i0 (.int .i64 0) 1 8 Try.underlying37 HI.out.1 HI.out.2.1 HI.out.2.2.1 HI.out.2.2.2 rfl (by omega) _ _ _ rfl HOA.out ⟨wr.heap.size, 0, none⟩ 1 1 [.int .i64 k] rfl rfl (World.news_of_block (cs := #[.int .i64 k]) (t := 3) (fr := (0, 0)) (heap_alloc_new wr _)) (by simp [Value.oneCell']) (by simp only [maxLen]; omega) (by omega) (by have := HB.size; simp; omega) ?_); intro v' w1 hown' hgrow _)
          have HO2 := Lib.hid hown'
          have HB2 : Below w.heap.size w w1 := (bel_new HB _).grown hgrow (bel_new HB _).size (own_base HOA.out)
          clear hown' hgrow
          go_wp2_with fail
          go_roundg (xs.length - (k + 1))
          case measure => omega
          case rel => exact ⟨k + 1, by omega, rfl, by go_num, by rw [HF.out, List.length_append, List.map_append]; exact HO2.out, HB2⟩
        · have hq2 : (v != 0) = true := by simp [h2]
          have hf := freeTo_no (xs := xs) (h := h) (k := k) (by rw [isFree, HG.out]; simp [h2])
          have HF := Lib.hid hf
          clear h1 h2 hf
          go_wp2_with fail
          go_roundg (xs.length - (k + 1))
          case measure => omega
          case rel => exact ⟨k + 1, by omega, rfl, by go_num, by rw [HF.out]; exact HO.out, HB⟩
    · have hkl : k = xs.length := by omega
      have HK := Lib.hid hkl
      clear hkl
      go_wp2_with fail
      go_ret
      have := HO.out
      rw [HK.out] at this
      exact ⟨_, rfl, sl_of_own this, HB⟩
set_option maxRecDepth 100000 in
set_option maxHeartbeats 1000000 in
theorem free30 (A : Option Addr) (c : Nat) (xs : List Int) (h : Int) (w : World) (hr : Rd w A xs) (hl : xs.length ≤ 1000) :
    Calls Try.prog 30 #[.slice A xs.length c, .int .i64 h] w fun e w' => ∃ v, e = .returned v ∧ SL w' v (freeL xs h) ∧ Below w.heap.size w w' := by
  obtain ⟨i0, hi0, hz0, hz1, hz2⟩ := info_parts info3
  have HI := Lib.hid (And.intro hi0 (And.intro hz0 (And.intro hz1 hz2)))
  clear hi0 hz0 hz1 hz2
  have HR := Lib.hid hr
  clear hr
  go_enter Try.func30, Try.ntmps30
  go_wp2_with fail
  go_loopg [5, 6] xs.length (fun gk s5 s10 wr => ∃ k : Nat, k ≤ xs.length ∧ gk = xs.length - k ∧ s10 = .int .i64 k ∧ wr.ownsRow w.heap.size 3 1 s5 (freeTo xs h k).length ((freeTo xs h k).map (Value.int .i64)) ∧ Below w.heap.size w wr)
  case atStart => exact ⟨0, Nat.zero_le _, rfl, rfl, ⟨rfl, .inl ⟨rfl, rfl⟩⟩, Below.refl _ _⟩
  case round =>
    obtain ⟨k, hk, hgk, rfl, hown, HB⟩ := hrel
    have HO := Lib.hid hown
    clear hown
    have hfl := freeTo_len xs h k
    by_cases hlt : k < xs.length
    · obtain ⟨b, o, v, rfl, hv, hc⟩ := rd_at (rd_keep HR.out HB) hlt
      have hg : xs.getD k 0 = v := by simp [List.getD, hv]
      have HG := Lib.hid hg
      clear hv hg
      by_cases h2 : v = 0
      · have hq2 : (v == 0) = true := by simp [h2]
        by_cases h1 : (k : Int) = h
        · have hq : ((k : Int) != h) = false := by simp [h1]
          have hf := freeTo_no (xs := xs) (h := h) (k := k) (by simp [isFree, h1])
          have HF := Lib.hid hf
          clear h1 h2 hf
          go_wp2_with fail
          go_roundg (xs.length - (k + 1))
          case measure => omega
          case rel => exact ⟨k + 1, by omega, rfl, by go_num, by rw [HF.out]; exact HO.out, HB⟩
        · have hq : ((k : Int) != h) = true := by simp [h1]
          have hf := freeTo_yes (xs := xs) (h := h) (k := k) (by rw [isFree, HG.out, h2]; simp [h1])
          have HF := Lib.hid hf
          clear h1 h2 hf
          have HOA := Lib.hid (HO.out.alloc (.cells #[.int .i64 k] 3))
          go_wp2_with (at_builtin; go_must (refine wpList_append_own _ rfl (.tmp 23) (.tmp 25) 37 rfl w.heap.size 3 i0 (.int .i64 0) 1 8 Try.underlying37 HI.out.1 HI.out.2.1 HI.out.2.2.1 HI.out.2.2.2 rfl (by omega) _ _ _ rfl HOA.out ⟨wr.heap.size, 0, none⟩ 1 1 [.int .i64 k] rfl rfl (World.news_of_block (cs := #[.int .i64 k]) (t := 3) (fr := (0, 0)) (heap_alloc_new wr _)) (by simp [Value.oneCell']) (by simp only [maxLen]; omega) (by omega) (by have := HB.size; simp; omega) ?_); intro v' w1 hown' hgrow _)
          have HO2 := Lib.hid hown'
          have HB2 : Below w.heap.size w w1 := (bel_new HB _).grown hgrow (bel_new HB _).size (own_base HOA.out)
          clear hown' hgrow
          go_wp2_with fail
          go_roundg (xs.length - (k + 1))
          case measure => omega
          case rel => exact ⟨k + 1, by omega, rfl, by go_num, by rw [HF.out, List.length_append, List.map_append]; exact HO2.out, HB2⟩
      · have hq2 : (v == 0) = false := by simp [h2]
        have hf := freeTo_no (xs := xs) (h := h) (k := k) (by rw [isFree, HG.out]; simp [h2])
        have HF := Lib.hid hf
        clear h2 hf
        go_wp2_with fail
        go_roundg (xs.length - (k + 1))
        case measure => omega
        case rel => exact ⟨k + 1, by omega, rfl, by go_num, by rw [HF.out]; exact HO.out, HB⟩
    · have hkl : k = xs.length := by omega
      have HK := Lib.hid hkl
      clear hkl
      go_wp2_with fail
      go_ret
      have := HO.out
      rw [HK.out] at this
      exact ⟨_, rfl, sl_of_own this, HB⟩

def posSum (xs : List Int) : Int := (xs.map fun x => max 0 x).sum
theorem posSum_nil : posSum [] = 0 := rfl
theorem posSum_snoc (xs : List Int) (v : Int) : posSum (xs ++ [v]) = posSum xs + max 0 v := by
  simp [posSum]
theorem posSum_bd {xs : List Int} (h : ∀ x ∈ xs, x ≤ 1099511627776) : 0 ≤ posSum xs ∧ posSum xs ≤ 1099511627776 * (xs.length : Int) := by
  induction xs with
  | nil => simp [posSum]
  | cons a l ih =>
    have h1 := h a (by simp)
    have h2 := ih fun x hx => h x (by simp [hx])
    simp only [posSum, List.map_cons, List.sum_cons, List.length_cons] at h2 ⊢
    omega

set_option maxRecDepth 100000 in
set_option maxHeartbeats 1000000 in
theorem sum31 (A : Option Addr) (c : Nat) (xs : List Int) (w : World) (hr : Rd w A xs) (hl : xs.length ≤ 1000) (hx : ∀ x ∈ xs, x ≤ 1099511627776) :
    Calls Try.prog 31 #[.slice A xs.length c] w fun e w' => e = .returned (.int .i64 (posSum xs)) ∧ Below w.heap.size w w' := by
  have HR := Lib.hid hr
  have HX := Lib.hid hx
  clear hr hx
  go_enter Try.func31, Try.ntmps31
  go_wp2_with fail
  go_loopg [3, 8] xs.length (fun gk s3 s8 wr => ∃ k : Nat, k ≤ xs.length ∧ gk = xs.length - k ∧ s8 = .int .i64 k ∧ s3 = .int .i64 (posSum (xs.take k)) ∧ Below w.heap.size w wr)
  case atStart => exact ⟨0, Nat.zero_le _, rfl, rfl, rfl, Below.refl _ _⟩
  case round =>
    obtain ⟨k, hk, hgk, rfl, rfl, HB⟩ := hrel
    have hb := posSum_bd (xs := xs.take k) fun x hx => HX.out x (List.mem_of_mem_take hx)
    obtain ⟨hb1, hb2⟩ := hb
    have hlk : ((xs.take k).length : Int) ≤ 1000 := by simp; omega
    by_cases hlt : k < xs.length
    · obtain ⟨b, o, v, rfl, hv, hc⟩ := rd_at (rd_keep HR.out HB) hlt
      have hvm : v ≤ 1099511627776 := HX.out v (List.mem_of_getElem? hv)
      have hs := posSum_snoc (xs.take k) v
      rw [← take_snoc xs k v hv] at hs
      have HS := Lib.hid hs
      clear hs hv
      generalize posSum (xs.take k) = S at *
      by_cases h1 : v < 0
      · go_wp2_with fail
        go_roundg (xs.length - (k + 1))
        case measure => omega
        case rel => exact ⟨k + 1, by omega, rfl, by go_num, by rw [HS.out]; congr 1; omega, HB⟩
      · go_wp2_with fail
        go_roundg (xs.length - (k + 1))
        case measure => omega
        case rel => exact ⟨k + 1, by omega, rfl, by go_num, by rw [HS.out]; congr 1; omega, HB⟩
    · have hkl : k = xs.length := by omega
      have HK := Lib.hid hkl
      clear hkl
      go_wp2_with fail
      go_ret
      exact ⟨ret_int (by rw [HK.out, List.take_length]), HB⟩

theorem live_ex : liveL 16 8 24 4 [4, 5, 28, 3, 999] = [2, 1, 0, 0, 0, 0, 0, 0] := by decide
theorem free_ex : freeL [0, 2, 0, 0] 2 = [0, 3] := by decide
theorem sum_ex : posSum [2, 1, 0, 0, 0, 0, 0, 0] = 3 := by decide

set_option maxRecDepth 100000 in
set_option maxHeartbeats 1000000 in
theorem wakes25 (w : World) :
    Calls Try.prog 25 #[] w fun e w' => e = .returned (.bool true) ∧ Below w.heap.size w w' := by
  go_enter Try.func25, Try.ntmps25
  go_wp2_with fail
  refine (small55 _).mono ?_
  rintro e w1 ⟨rfl, HB1⟩
  go_wp2_with fail
  refine (count27 16 8 24 4 _ _ [4, 5, 28, 3, 999] _ (rd_of_blk (xs := [4, 5, 28, 3, 999]) (blk_new _ _ _)) (by simp)).mono ?_
  rintro e w2 ⟨v, rfl, hs, hb2⟩
  have HB2 := bel_step (bel_new HB1 _) hb2
  clear HB1 hb2
  rw [live_ex] at hs
  obtain ⟨A, c, rfl, hR, _⟩ := hs
  have HR := Lib.hid hR
  clear hR
  go_wp2_with fail
  refine (ints26 _ _ _ _ [2, 1, 0, 0, 0, 0, 0, 0] [2, 1, 0, 0, 0, 0, 0, 0] _ (rd_keep HR.out (bel_box _ _)) (rd_of_blk (xs := [2, 1, 0, 0, 0, 0, 0, 0]) (blk_new _ _ _)) (by simp) (by simp)).mono ?_
  rintro e w3 ⟨rfl, hb3⟩
  have HR3 := Lib.hid (rd_keep (rd_keep HR.out (bel_box _ _)) hb3)
  have HB3 := bel_step (bel_new HB2 _) hb3
  clear HB2 hb3 HR
  rw [show decide ([2, 1, 0, 0, 0, 0, 0, 0] = ([2, 1, 0, 0, 0, 0, 0, 0] : List Int)) = true by decide]
  go_wp2_with fail
  refine (free29 _ _ [0, 2, 0, 0] 2 _ (rd_of_blk (xs := [0, 2, 0, 0]) (blk_new _ _ _)) (by simp)).mono ?_
  rintro e w4 ⟨v, rfl, hs, hb4⟩
  have HR4 := Lib.hid (rd_keep (rd_keep HR3.out (bel_box _ _)) hb4)
  have HB4 := bel_step (bel_new HB3 _) hb4
  clear HB3 hb4 HR3
  rw [free_ex] at hs
  obtain ⟨A', c', rfl, hR', _⟩ := hs
  have HR' := Lib.hid hR'
  clear hR'
  go_wp2_with fail
  refine (ints26 _ _ _ _ [0, 3] [0, 3] _ (rd_keep HR'.out (bel_box _ _)) (rd_of_blk (xs := [0, 3]) (blk_new _ _ _)) (by simp) (by simp)).mono ?_
  rintro e w5 ⟨rfl, hb5⟩
  have HR5 := Lib.hid (rd_keep (rd_keep HR4.out (bel_box _ _)) hb5)
  have HB5 := bel_step (bel_new HB4 _) hb5
  clear HB4 hb5 HR4 HR'
  rw [show decide ([0, 3] = ([0, 3] : List Int)) = true by decide]
  go_wp2_with fail
  refine (sum31 _ _ [2, 1, 0, 0, 0, 0, 0, 0] _ HR5.out (by simp) (by simp)).mono ?_
  rintro e w6 ⟨rfl, hb6⟩
  rw [sum_ex]
  go_wp2_with fail
  go_ret
  exact ⟨rfl, bel_step HB5 hb6⟩
end Go.Proofs.Ytecjccjgcdnpnaa
