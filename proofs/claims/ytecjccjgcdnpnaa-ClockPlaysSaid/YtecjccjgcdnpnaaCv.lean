/- Contracts of the clock's New and Victim. -/
import Derived.Test.YtecjccjgcdnpnaaCk
namespace Go.Proofs.Ytecjccjgcdnpnaa
open Go.RowKit
set_option linter.unusedSimpArgs false
set_option linter.unusedVariables false

/-- So many more steps of the hand. -/
def spin : Nat → List Fr → Nat → Option Nat × List Fr × Nat
  | 0, fr, h => (none, fr, h)
  | m + 1, fr, h => match fr[h]? with
    | none => (none, fr, h)
    | some f => if 0 < f.pins then spin m fr ((h + 1) % fr.length) else if f.mark = true then spin m (fr.set h { f with mark := false }) ((h + 1) % fr.length) else (some h, fr, (h + 1) % fr.length)

def victimR (fr : List Fr) (hand : Nat) : Option Nat × List Fr × Nat := match findF fr (-1) with
  | some i => (some i, fr, hand)
  | none => spin (2 * fr.length) fr hand

theorem ca_hand' {w : World} {cb fb : Nat} {fr : List Fr} {hand : Nat} (h : CA w cb fb fr hand) (k : Nat) (v : Int) (hv : v = k) : CA (w.setCell ⟨cb, 1, none⟩ (.int .i64 v)) cb fb fr k := by
  rw [hv]; exact ca_hand h k
theorem modc (a n : Nat) : ((a : Int) + 1) % (n : Int) = (((a + 1) % n : Nat) : Int) := by simp

set_option maxHeartbeats 1000000 in
theorem victim34 (cb fb : Nat) (fr : List Fr) (hand : Nat) (w : World) (h : CA w cb fb fr hand) (hh : hand < fr.length) :
    Calls Try.prog 34 #[.pointer (some ⟨cb, 0, none⟩)] w fun e w' => e = .returned (.tuple #[.int .i64 ((victimR fr hand).1.getD 0 : Nat), .bool (victimR fr hand).1.isSome]) ∧ CA w' cb fb (victimR fr hand).2.1 (victimR fr hand).2.2 ∧ Only cb fb w w' := by
  have H := Lib.hid h
  cases hq : findF fr (-1) with
  | some i =>
    have hr : victimR fr hand = (some i, fr, hand) := by simp only [victimR, hq]
    rw [hr]
    have HQ := Lib.hid hq
    clear h hq hr
    go_enter Try.func34, Try.ntmps34
    go_wp2_with fail
    refine (empty56 cb fb fr hand _ H.out).mono ?_
    rintro e w1 ⟨rfl, hb⟩
    rw [HQ.out]
    go_wp2_with fail
    go_ret2
    exact ⟨rfl, ca_keep H.out hb, only_of_below hb _ _⟩
  | none =>
    have hr : victimR fr hand = spin (2 * fr.length) fr hand := by simp only [victimR, hq]
    rw [hr]
    have hl := h.2.2
    have HQ := Lib.hid hq
    clear h hq hr
    go_enter Try.func34, Try.ntmps34
    go_wp2_with fail
    refine (empty56 cb fb fr hand _ H.out).mono ?_
    rintro e w1 ⟨rfl, hb⟩
    rw [HQ.out]
    have HC := ca_keep H.out hb
    have HO := only_of_below hb cb fb
    obtain ⟨x0, _, _⟩ := ca_slice HC
    clear hb
    go_wp2_with fail
    go_loopg [23] (2 * fr.length) (fun gk s23 wr => ∃ (k : Nat) (fr' : List Fr) (hd : Nat), k ≤ 2 * fr.length ∧ gk = 2 * fr.length - k ∧ s23 = .int .i64 k ∧ CA wr cb fb fr' hd ∧ fr'.length = fr.length ∧ hd < fr.length ∧ spin (2 * fr.length) fr hand = spin (2 * fr.length - k) fr' hd ∧ Only cb fb w wr)
    case atStart => exact ⟨0, fr, hand, Nat.zero_le _, rfl, rfl, HC, rfl, hh, rfl, HO⟩
    case round =>
      clear x0 HC HO
      obtain ⟨k, fr', hd, hk, hgk, rfl, HC, hlen, hhd, hsp, HO⟩ := hrel
      have HL := Lib.hid hlen
      have HS := Lib.hid hsp
      obtain ⟨x0, x1, x2⟩ := ca_slice HC
      rw [hlen] at x0
      have ne1 : ¬ cb = fb := ca_ne HC
      have ne2 : ¬ fb = cb := fun e => ne1 e.symm
      clear hsp hlen
      by_cases hlt : k < 2 * fr.length
      · have hhd' : hd < fr'.length := by rw [HL.out]; exact hhd
        obtain ⟨f, hf⟩ : ∃ f, fr'[hd]? = some f := ⟨_, List.getElem?_eq_getElem hhd'⟩
        obtain ⟨c0, c1, c2, z0, z1, z2⟩ := ca_cells HC hf
        have HF := Lib.hid hf
        have HCC := Lib.hid HC
        have q0 : (0 : Int) ≤ (hd : Int) := Int.natCast_nonneg _
        have q1 : (hd : Int) < (fr.length : Int) := by omega
        have hstep : 2 * fr.length - k = (2 * fr.length - (k + 1)) + 1 := by omega
        clear hf HC hhd'
        by_cases hp : 0 < f.pins
        · have hs2 : spin (2 * fr.length) fr hand = spin (2 * fr.length - (k + 1)) fr' ((hd + 1) % fr.length) := by
            rw [HS.out, hstep, spin, HF.out]
            simp only [if_pos hp, HL.out]
          have HS2 := Lib.hid hs2
          clear hs2 hstep
          go_wp2_with fail
          go_roundg (2 * fr.length - (k + 1))
          case measure => omega
          case rel => exact ⟨k + 1, fr', (hd + 1) % fr.length, by omega, rfl, by go_num, ca_hand' HCC.out _ _ (modc _ _), HL.out, Nat.mod_lt _ (by omega), HS2.out, only_c HO _ _⟩
        · cases hm : f.mark with
          | true =>
            have hs2 : spin (2 * fr.length) fr hand = spin (2 * fr.length - (k + 1)) (fr'.set hd { f with mark := false }) ((hd + 1) % fr.length) := by
              rw [HS.out, hstep, spin, HF.out]
              simp only [if_neg hp, hm, if_true, HL.out]
            have HS2 := Lib.hid hs2
            rw [hm] at c1
            clear hs2 hstep hm
            go_wp2_with fail
            go_roundg (2 * fr.length - (k + 1))
            case measure => omega
            case rel => exact ⟨k + 1, fr'.set hd { f with mark := false }, (hd + 1) % fr.length, by omega, rfl, by go_num, ca_setMark (ca_hand' HCC.out _ _ (modc _ _)) HF.out _, by rw [List.length_set]; exact HL.out, Nat.mod_lt _ (by omega), HS2.out, only_f (only_c HO _ _) _ _⟩
          | false =>
            have hs2 : spin (2 * fr.length) fr hand = (some hd, fr', (hd + 1) % fr.length) := by
              rw [HS.out, hstep, spin, HF.out]
              simp [if_neg hp, hm, HL.out]
            have HS2 := Lib.hid hs2
            rw [hm] at c1
            clear hs2 hstep hm
            go_wp2_with fail
            go_ret2
            rw [HS2.out]
            exact ⟨rfl, ca_hand' HCC.out _ _ (modc _ _), only_c HO _ _⟩
      · have hz : 2 * fr.length - k = 0 := by omega
        have hs2 : spin (2 * fr.length) fr hand = (none, fr', hd) := by
          rw [HS.out, hz, spin]
        have HS2 := Lib.hid hs2
        have HCC := Lib.hid HC
        clear hs2 hz HC
        go_wp2_with fail
        go_ret2
        rw [HS2.out]
        exact ⟨rfl, HCC.out, HO⟩

theorem info77 : (Try.prog.info? 77).map (fun i => (i.zero, i.size, i.bytes)) = some (some (.agg #[.int .i64 0, .bool false, .int .i64 0]), 3, 24) := by kernel_rfl

theorem make73 (n : Nat) (hn : n ≤ 16) (w : World) : (Instr.makeSlice 73 (.int .i64 (n : Int)) (.int .i64 (n : Int))).run Try.prog w = .ok (.slice (some ⟨w.heap.size, 0, none⟩) n n) (w.alloc (.cells (madeCells #[.int .i64 0, .bool false, .int .i64 0] (n * 3)) 77)) := by
  obtain ⟨i, hi, hz, hs, hb⟩ := info_parts info77
  have hb' : (i.bytes : Int) * (n : Int) ≤ 281474976710656 := by rw [hb]; omega
  have hr := run_make (P := Try.prog) w 73 77 i _ Try.underlying73 hi hz .i64 .i64 n n (by omega) (Int.le_refl _) hb' (by omega)
  simp only [Int.toNat_natCast, hs] at hr
  exact hr

/-- The frames as New has made the first k of them. -/
def newF (n k : Nat) : List Fr := (List.range n).map fun i => if i < k then ⟨-1, false, 0⟩ else ⟨0, false, 0⟩
theorem newF_length (n k : Nat) : (newF n k).length = n := by simp [newF]
theorem newF_get (n k i : Nat) (h : i < n) : (newF n k)[i]? = some (if i < k then ⟨-1, false, 0⟩ else ⟨0, false, 0⟩) := by simp [newF, h]
theorem newF_step (n k : Nat) (h : k < n) : (newF n k).set k ⟨-1, false, 0⟩ = newF n (k + 1) := by
  apply List.ext_getElem?
  intro i
  rw [List.getElem?_set, newF_length]
  by_cases hi : i < n
  · rw [newF_get n k i hi, newF_get n (k + 1) i hi]
    by_cases hk : k = i
    · subst hk; simp [h]
    · rw [if_neg hk]
      by_cases h2 : i < k
      · rw [if_pos h2, if_pos (by omega)]
      · rw [if_neg h2, if_neg (by omega)]
  · rw [List.getElem?_eq_none (by rw [newF_length]; omega), List.getElem?_eq_none (by rw [newF_length]; omega), if_neg (by omega)]
theorem newF_all (n : Nat) : newF n n = List.replicate n ⟨-1, false, 0⟩ := by
  apply List.ext_getElem?
  intro i
  by_cases hi : i < n
  · rw [newF_get n n i hi]; simp [hi]
  · rw [List.getElem?_eq_none (by rw [newF_length]; omega), List.getElem?_eq_none (by simp; omega)]

theorem made_get (n i j : Nat) (hi : i < n) (hj : j < 3) : (madeCells #[Value.int .i64 0, .bool false, .int .i64 0] (n * 3))[i * 3 + j]? = #[Value.int .i64 0, .bool false, .int .i64 0][j]? := by
  simp only [madeCells, Array.getElem?_map]
  rw [Array.getElem?_eq_getElem (by simp; omega)]
  simp only [Array.getElem_range, Option.map_some]
  rcases (by omega : j = 0 ∨ j = 1 ∨ j = 2) with rfl | rfl | rfl
  · simp [Nat.mul_add_mod_self_right]
  · have : (i * 3 + 1) % 3 = 1 := by omega
    simp [this]
  · have : (i * 3 + 2) % 3 = 2 := by omega
    simp [this]

theorem ca_new (w : World) (n : Nat) (hn : n ≤ 16) : CA ((w.alloc (.cells (madeCells #[.int .i64 0, .bool false, .int .i64 0] (n * 3)) 77)).alloc (.cells #[.slice (some ⟨w.heap.size, 0, none⟩) n n, .int .i64 0] 75)) (w.heap.size + 1) w.heap.size (newF n 0) 0 := by
  refine ⟨?_, ⟨_, blk_alloc (blk_new w 77 _) _, fun i f hf => ?_⟩, by rw [newF_length]; exact hn⟩
  · have h := blk_new (w.alloc (.cells (madeCells #[.int .i64 0, .bool false, .int .i64 0] (n * 3)) 77)) 75 #[.slice (some ⟨w.heap.size, 0, none⟩) n n, .int .i64 0]
    rw [World.size_alloc] at h
    rw [newF_length]
    exact h
  · have hi : i < n := by have := (List.getElem?_eq_some_iff.1 hf).1; rw [newF_length] at this; exact this
    rw [newF_get n 0 i hi] at hf
    simp at hf
    subst hf
    exact ⟨made_get n i 0 hi (by omega), made_get n i 1 hi (by omega), made_get n i 2 hi (by omega)⟩

set_option maxHeartbeats 1000000 in
theorem new32_bad (n : Int) (w : World) (h : n < 1 ∨ 16 < n) :
    Calls Try.prog 32 #[.int .i64 n] w fun e w' => e = .returned (.tuple #[.pointer none, .int .i64 1]) ∧ w' = w := by
  by_cases h1 : n < 1
  · clear h
    go_enter Try.func32, Try.ntmps32
    go_wp2_with fail
    go_ret2
    exact ⟨rfl, rfl⟩
  · have h2 : 16 < n := by omega
    clear h
    go_enter Try.func32, Try.ntmps32
    go_wp2_with fail
    go_ret2
    exact ⟨rfl, rfl⟩

set_option maxHeartbeats 1000000 in
theorem new32 (n : Nat) (w : World) (h1 : 1 ≤ n) (h2 : n ≤ 16) :
    Calls Try.prog 32 #[.int .i64 n] w fun e w' => ∃ cb fb, e = .returned (.tuple #[.pointer (some ⟨cb, 0, none⟩), .int .i64 0]) ∧ CA w' cb fb (List.replicate n ⟨-1, false, 0⟩) 0 ∧ w.heap.size ≤ cb ∧ w.heap.size ≤ fb ∧ Below w.heap.size w w' := by
  have hmk := make73 n h2
  go_enter Try.func32, Try.ntmps32
  go_wp2_with fail
  have HC := ca_new w n h2
  have HB := bel_new (bel_box w (.cells (madeCells #[.int .i64 0, .bool false, .int .i64 0] (n * 3)) 77)) (.cells #[.slice (some ⟨w.heap.size, 0, none⟩) n n, .int .i64 0] 75)
  go_loopg [21] n (fun gk s21 wr => ∃ k : Nat, k ≤ n ∧ gk = n - k ∧ s21 = .int .i64 k ∧ CA wr (w.heap.size + 1) w.heap.size (newF n k) 0 ∧ Below w.heap.size w wr)
  case atStart => exact ⟨0, Nat.zero_le _, rfl, rfl, HC, HB⟩
  case round =>
    clear HC HB
    obtain ⟨k, hk, hgk, rfl, HC, HB⟩ := hrel
    obtain ⟨x0, _, _⟩ := ca_slice HC
    rw [newF_length] at x0
    by_cases hlt : k < n
    · have hf := newF_get n k k hlt
      rw [if_neg (by omega)] at hf
      obtain ⟨c0, c1, c2, z0, z1, z2⟩ := ca_cells HC hf
      have hs := ca_setKey HC hf (-1)
      rw [show ({ ({ key := 0, mark := false, pins := 0 } : Fr) with key := -1 } : Fr) = ⟨-1, false, 0⟩ from rfl, newF_step n k hlt] at hs
      have HS := Lib.hid hs
      have q0 : (0 : Int) ≤ (k : Int) := Int.natCast_nonneg _
      have q1 : (k : Int) < (n : Int) := by omega
      clear hs hf HC
      go_wp2_with fail
      go_roundg (n - (k + 1))
      case measure => omega
      case rel => exact ⟨k + 1, by omega, rfl, by go_num, HS.out, bel_set HB _ _ (Nat.le_refl _)⟩
    · obtain rfl : k = n := by omega
      rw [newF_all] at HC
      have HCC := Lib.hid HC
      clear HC
      go_wp2_with fail
      go_ret2
      exact ⟨_, _, rfl, HCC.out, by omega, Nat.le_refl _, HB⟩
end Go.Proofs.Ytecjccjgcdnpnaa
