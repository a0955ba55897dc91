/- Contracts of the reference clock's methods. -/
import Derived.Test.YtecjccjgcdnpnaaKp
import Derived.StillTailTactics
import Derived.Maps.AppendAt
import Derived.Deep.AppendLies
namespace Go.Proofs.Ytecjccjgcdnpnaa
open Go.RowKit
set_option linter.unusedSimpArgs false
set_option linter.unusedVariables false

/-- The reference's frames: key, pins, mark. -/
def GA (w : World) (gb : Nat) (fr : List Fr) : Prop :=
  ∃ cs : Array Value, Blk w gb 67 cs ∧ ∀ i f, fr[i]? = some f → cs[i * 3]? = some (.int .i64 f.key) ∧ cs[i * 3 + 1]? = some (.int .i64 f.pins) ∧ cs[i * 3 + 2]? = some (.bool f.mark)
/-- The reference's clock. -/
def RA (w : World) (qb gb cap : Nat) (fr : List Fr) (hand : Nat) : Prop :=
  Blk w qb 65 #[.slice (some ⟨gb, 0, none⟩) fr.length cap, .int .i64 hand] ∧ GA w gb fr ∧ fr.length ≤ 16

section
variable {w w' : World} {qb gb cap : Nat} {fr : List Fr} {hand i : Nat} {f : Fr}
theorem ra_ne (h : RA w qb gb cap fr hand) : qb ≠ gb := by
  obtain ⟨hc, ⟨cs, hb, _⟩, _⟩ := h
  exact blk_ne hc hb (by decide)
theorem ra_cells (h : RA w qb gb cap fr hand) (hf : fr[i]? = some f) :
    w.cell? ⟨gb, i * 3, none⟩ = some (.int .i64 f.key) ∧ w.cell? ⟨gb, i * 3 + 1, none⟩ = some (.int .i64 f.pins) ∧ w.cell? ⟨gb, i * 3 + 2, none⟩ = some (.bool f.mark) ∧
      w.frozen? ⟨gb, i * 3, none⟩ = false ∧ w.frozen? ⟨gb, i * 3 + 1, none⟩ = false ∧ w.frozen? ⟨gb, i * 3 + 2, none⟩ = false := by
  obtain ⟨_, ⟨cs, hb, hx⟩, _⟩ := h
  obtain ⟨h0, h1, h2⟩ := hx i f hf
  exact ⟨(blk_cell hb _).trans h0, (blk_cell hb _).trans h1, (blk_cell hb _).trans h2, blk_froz hb _, blk_froz hb _, blk_froz hb _⟩
theorem ra_slice (h : RA w qb gb cap fr hand) : w.cell? ⟨qb, 0, none⟩ = some (.slice (some ⟨gb, 0, none⟩) fr.length cap) ∧ w.cell? ⟨qb, 1, none⟩ = some (.int .i64 hand) ∧ w.frozen? ⟨qb, 1, none⟩ = false := by
  obtain ⟨hc, _, _⟩ := h
  exact ⟨blk_cell hc 0, blk_cell hc 1, blk_froz hc 1⟩
theorem ra_keep (h : RA w qb gb cap fr hand) (hb : Below w.heap.size w w') : RA w' qb gb cap fr hand := by
  obtain ⟨hc, ⟨cs, hf, hx⟩, hl⟩ := h
  exact ⟨blk_keep hc hb, ⟨cs, blk_keep hf hb, hx⟩, hl⟩
theorem ra_hand (h : RA w qb gb cap fr hand) (k : Nat) (v : Int) (hv : v = k) : RA (w.setCell ⟨qb, 1, none⟩ (.int .i64 v)) qb gb cap fr k := by
  rw [hv]
  have hne := ra_ne h
  obtain ⟨hc, ⟨cs, hf, hx⟩, hl⟩ := h
  exact ⟨blk_set hc 1 _, ⟨cs, blk_far hf (by simpa using hne) _, hx⟩, hl⟩
theorem ga_set (h : RA w qb gb cap fr hand) (hf : fr[i]? = some f) (j : Nat) (hj : j < 3) (v : Value) (g : Fr)
    (h0 : (if j = 0 then v else .int .i64 f.key) = .int .i64 g.key) (h1 : (if j = 1 then v else .int .i64 f.pins) = .int .i64 g.pins) (h2 : (if j = 2 then v else .bool f.mark) = .bool g.mark) :
    RA (w.setCell ⟨gb, i * 3 + j, none⟩ v) qb gb cap (fr.set i g) hand := by
  have hne := ra_ne h
  obtain ⟨hc, ⟨cs, hb, hx⟩, hl⟩ := h
  refine ⟨by rw [List.length_set]; exact blk_far hc (by simpa using Ne.symm hne) _, ⟨_, blk_set hb _ v, fun k q hq => ?_⟩, by simpa using hl⟩
  obtain ⟨c0, c1, c2⟩ := hx i f hf
  have hs0 : i * 3 < cs.size := (Array.getElem?_eq_some_iff.1 c0).1
  have hs1 : i * 3 + 1 < cs.size := (Array.getElem?_eq_some_iff.1 c1).1
  have hs2 : i * 3 + 2 < cs.size := (Array.getElem?_eq_some_iff.1 c2).1
  rw [List.getElem?_set] at hq
  by_cases hik : i = k
  · subst hik
    rw [if_pos rfl] at hq
    have hil : i < fr.length := (List.getElem?_eq_some_iff.1 hf).1
    rw [if_pos hil] at hq
    injection hq with hq
    subst hq
    simp only [Array.getElem?_setIfInBounds]
    refine ⟨?_, ?_, ?_⟩
    · by_cases e : j = 0
      · subst e; simpa [hs0] using h0
      · rw [if_neg (by omega), c0, ← h0, if_neg e]
    · by_cases e : j = 1
      · subst e; simpa [hs1] using h1
      · rw [if_neg (by omega), c1, ← h1, if_neg e]
    · by_cases e : j = 2
      · subst e; simpa [hs2] using h2
      · rw [if_neg (by omega), c2, ← h2, if_neg e]
  · rw [if_neg hik] at hq
    obtain ⟨d0, d1, d2⟩ := hx k q hq
    simp only [Array.getElem?_setIfInBounds]
    rw [if_neg (by omega), if_neg (by omega), if_neg (by omega)]
    exact ⟨d0, d1, d2⟩
theorem ra_setKey (h : RA w qb gb cap fr hand) (hf : fr[i]? = some f) (k : Int) : RA (w.setCell ⟨gb, i * 3, none⟩ (.int .i64 k)) qb gb cap (fr.set i { f with key := k }) hand :=
  ga_set h hf 0 (by omega) _ _ rfl rfl rfl
theorem ra_setPins (h : RA w qb gb cap fr hand) (hf : fr[i]? = some f) (k : Int) : RA (w.setCell ⟨gb, i * 3 + 1, none⟩ (.int .i64 k)) qb gb cap (fr.set i { f with pins := k }) hand :=
  ga_set h hf 1 (by omega) _ _ rfl rfl rfl
theorem ra_setMark (h : RA w qb gb cap fr hand) (hf : fr[i]? = some f) (b : Bool) : RA (w.setCell ⟨gb, i * 3 + 2, none⟩ (.bool b)) qb gb cap (fr.set i { f with mark := b }) hand :=
  ga_set h hf 2 (by omega) _ _ rfl rfl rfl
theorem ra_setAll (h : RA w qb gb cap fr hand) (hf : fr[i]? = some f) (k p : Int) (b : Bool) : RA (((w.setCell ⟨gb, i * 3, none⟩ (.int .i64 k)).setCell ⟨gb, i * 3 + 1, none⟩ (.int .i64 p)).setCell ⟨gb, i * 3 + 2, none⟩ (.bool b)) qb gb cap (fr.set i ⟨k, b, p⟩) hand := by
  have hl : i < fr.length := (List.getElem?_eq_some_iff.1 hf).1
  have h1 := ra_setKey h hf k
  have h2 := ra_setPins h1 (f := { f with key := k }) (i := i) (by rw [List.getElem?_set_self hl]) p
  rw [List.set_set] at h2
  have h3 := ra_setMark h2 (f := { f with key := k, pins := p }) (i := i) (by rw [List.getElem?_set_self hl]) b
  rw [List.set_set] at h3
  exact h3
end

/-- Keys are none or not negative, pins are not negative and few. -/
structure RInv (fr : List Fr) (m : Nat) : Prop where
  keys : ∀ (i : Nat) (f : Fr), fr[i]? = some f → -1 ≤ f.key
  bd : ∀ (i : Nat) (f : Fr), fr[i]? = some f → 0 ≤ f.pins ∧ f.pins ≤ m

set_option maxHeartbeats 400000 in
theorem has53 (qb gb cap : Nat) (fr : List Fr) (hand : Nat) (i : Int) (w : World) (h : RA w qb gb cap fr hand) :
    Calls Try.prog 53 #[.pointer (some ⟨qb, 0, none⟩), .int .i64 i] w fun e w' => e = .returned (.bool (inN fr.length i)) ∧ w' = w := by
  obtain ⟨x0, _, _⟩ := ra_slice h
  have hl := h.2.2
  clear h
  by_cases h0 : i < 0
  · have e1 : decide (i ≥ 0) = false := by simp; omega
    rw [inN_out (.inl h0)]
    go_enter Try.func53, Try.ntmps53
    go_wp2_with fail
    go_ret
    exact ⟨rfl, rfl⟩
  · have e1 : decide (i ≥ 0) = true := by simp; omega
    by_cases h1 : (fr.length : Int) ≤ i
    · have e2 : decide (i < (fr.length : Int)) = false := decide_eq_false (by omega)
      rw [inN_out (.inr h1)]
      go_enter Try.func53, Try.ntmps53
      go_wp2_with fail
      go_ret
      exact ⟨rfl, rfl⟩
    · have e2 : decide (i < (fr.length : Int)) = true := decide_eq_true (by omega)
      rw [show inN fr.length i = true from decide_eq_true (by omega)]
      go_enter Try.func53, Try.ntmps53
      go_wp2_with fail
      go_ret
      exact ⟨rfl, rfl⟩

theorem has_in {fr : List Fr} {i : Nat} (h : i < fr.length) : inN fr.length (i : Int) = true := inN_in h
theorem frAt_has {fr : List Fr} {i : Int} (h : frAt fr i = none) : inN fr.length i = false := inN_out (frAt_none h)

/-- A number out of an answer that may be none. -/
def orM (o : Option Nat) : Int := match o with
  | some j => (j : Int)
  | none => -1

set_option maxHeartbeats 1000000 in
theorem find45 (qb gb cap : Nat) (fr : List Fr) (hand : Nat) (key : Int) (w : World) (h : RA w qb gb cap fr hand) :
    Calls Try.prog 45 #[.pointer (some ⟨qb, 0, none⟩), .int .i64 key] w fun e w' => e = .returned (.int .i64 (orM (findR fr key))) ∧ w' = w := by
  have hl := h.2.2
  by_cases hk : key < 0
  · have hr : findR fr key = none := by simp only [findR, if_pos hk]
    rw [hr]
    have e1 : decide (key ≥ 0) = false := by simp; omega
    obtain ⟨x0, _, _⟩ := ra_slice h
    clear hr h
    by_cases hz : 0 < fr.length
    · go_enter Try.func45, Try.ntmps45
      go_wp2_with fail
      go_loopg [5] 0 (fun gk s5 wr => s5 = .int .i64 0 ∧ wr = w)
      case atStart => exact ⟨rfl, rfl⟩
      case round =>
        obtain ⟨rfl, rfl⟩ := hrel
        go_wp2_with fail
        go_ret
        exact ⟨rfl, rfl⟩
    · go_enter Try.func45, Try.ntmps45
      go_wp2_with fail
      go_loopg [5] 0 (fun gk s5 wr => s5 = .int .i64 0 ∧ wr = w)
      case atStart => exact ⟨rfl, rfl⟩
      case round =>
        obtain ⟨rfl, rfl⟩ := hrel
        go_wp2_with fail
        go_ret
        exact ⟨rfl, rfl⟩
  · have hr : findR fr key = findF fr key := by simp only [findR, if_neg hk]
    rw [hr]
    have e1 : decide (key ≥ 0) = true := by simp; omega
    clear hr
    have H := Lib.hid h
    obtain ⟨x0, _, _⟩ := ra_slice h
    clear h
    go_enter Try.func45, Try.ntmps45
    go_wp2_with fail
    go_loopg [5] fr.length (fun gk s5 wr => ∃ k : Nat, k ≤ fr.length ∧ gk = fr.length - k ∧ s5 = .int .i64 k ∧ (∀ (i : Nat) (g : Fr), i < k → fr[i]? = some g → ¬ g.key = key) ∧ wr = w)
    case atStart => exact ⟨0, Nat.zero_le _, rfl, rfl, fun i g hi => absurd hi (by omega), rfl⟩
    case round =>
      obtain ⟨k, hkl, hgk, rfl, hpre, rfl⟩ := hrel
      have HP := Lib.hid hpre
      clear hpre
      by_cases hlt : k < fr.length
      · obtain ⟨f, hf⟩ : ∃ f, fr[k]? = some f := ⟨_, List.getElem?_eq_getElem hlt⟩
        obtain ⟨c0, c1, c2, _, _, _⟩ := ra_cells H.out hf
        have HF := Lib.hid hf
        have q0 : (0 : Int) ≤ (k : Int) := Int.natCast_nonneg _
        have q1 : (k : Int) < (fr.length : Int) := by omega
        clear hf
        by_cases he : f.key = key
        · have e2 : (f.key == key) = true := by simp [he]
          have hs := findF_some HF.out he HP.out
          have HS := Lib.hid hs
          clear he hs
          go_wp2_with fail
          go_ret
          exact ⟨by rw [HS.out]; rfl, rfl⟩
        · have e2 : (f.key == key) = false := by simp [he]
          have HE := Lib.hid he
          clear he
          go_wp2_with fail
          go_roundg (fr.length - (k + 1))
          case measure => omega
          case rel =>
            refine ⟨k + 1, by omega, rfl, by go_num, fun i g hi hg => ?_, rfl⟩
            by_cases hik : i < k
            · exact HP.out i g hik hg
            · obtain rfl : i = k := by omega
              rw [HF.out] at hg
              injection hg with hg
              subst hg
              exact HE.out
      · have hkn : k = fr.length := by omega
        have hs : findF fr key = none := findF_none fun i g hg => HP.out i g (by have := (List.getElem?_eq_some_iff.1 hg).1; omega) hg
        have HS := Lib.hid hs
        clear hs hkn
        go_wp2_with fail
        go_ret
        exact ⟨by rw [HS.out]; rfl, rfl⟩

set_option maxHeartbeats 1000000 in
theorem pinned52 (qb gb cap : Nat) (fr : List Fr) (hand : Nat) (w : World) (h : RA w qb gb cap fr hand) :
    Calls Try.prog 52 #[.pointer (some ⟨qb, 0, none⟩)] w fun e w' => e = .returned (.int .i64 (pinnedN fr : Int)) ∧ w' = w := by
  have H := Lib.hid h
  obtain ⟨x0, _, _⟩ := ra_slice h
  have hl := h.2.2
  clear h
  go_enter Try.func52, Try.ntmps52
  go_wp2_with fail
  go_loopg [3, 4] fr.length (fun gk s3 s4 wr => ∃ k : Nat, k ≤ fr.length ∧ gk = fr.length - k ∧ s4 = .int .i64 k ∧ s3 = .int .i64 (pinnedN (fr.take k) : Int) ∧ wr = w)
  case atStart => exact ⟨0, Nat.zero_le _, rfl, rfl, rfl, rfl⟩
  case round =>
    obtain ⟨k, hkl, hgk, rfl, rfl, rfl⟩ := hrel
    have hpn : pinnedN (fr.take k) ≤ 16 := Nat.le_trans (List.length_filter_le _ _) (by simp; omega)
    by_cases hlt : k < fr.length
    · obtain ⟨f, hf⟩ : ∃ f, fr[k]? = some f := ⟨_, List.getElem?_eq_getElem hlt⟩
      obtain ⟨c0, c1, c2, _, _, _⟩ := ra_cells H.out hf
      have hs := pinnedN_snoc (fr.take k) f
      rw [← take_snocF fr k f hf] at hs
      have HS := Lib.hid hs
      have q0 : (0 : Int) ≤ (k : Int) := Int.natCast_nonneg _
      have q1 : (k : Int) < (fr.length : Int) := by omega
      clear hf hs
      generalize pinnedN (fr.take k) = N at *
      by_cases he : 0 < f.pins
      · go_wp2_with fail
        go_roundg (fr.length - (k + 1))
        case measure => omega
        case rel => exact ⟨k + 1, by omega, rfl, by go_num, by rw [HS.out, if_pos he]; go_num, rfl⟩
      · go_wp2_with fail
        go_roundg (fr.length - (k + 1))
        case measure => omega
        case rel => exact ⟨k + 1, by omega, rfl, by go_num, by rw [HS.out, if_neg (by omega)]; go_num, rfl⟩
    · have hkn : k = fr.length := by omega
      have HK := Lib.hid hkn
      clear hkn
      go_wp2_with fail
      go_ret
      exact ⟨ret_int (by rw [HK.out, List.take_length]), rfl⟩

set_option maxHeartbeats 1000000 in
theorem pin48 (qb gb cap : Nat) (fr : List Fr) (hand m : Nat) (i : Int) (w : World) (h : RA w qb gb cap fr hand) (I : RInv fr m) (hm : m ≤ 1000000) :
    Calls Try.prog 48 #[.pointer (some ⟨qb, 0, none⟩), .int .i64 i] w fun e w' => e = .returned (.bool (pinR fr i).1) ∧ RA w' qb gb cap (pinR fr i).2 hand ∧ Only qb gb w w' := by
  have H := Lib.hid h
  have h53 := has53 qb gb cap fr hand i w h
  obtain ⟨x0, _, _⟩ := ra_slice h
  cases hq : frAt fr i with
  | none =>
    have hr : pinR fr i = (false, fr) := by simp only [pinR, hq]
    rw [frAt_has hq] at h53
    have H53 := Lib.hid h53
    rw [hr]
    clear h hq hr h53 x0
    go_enter Try.func48, Try.ntmps48
    go_wp2_with fail
    refine H53.out.mono ?_
    rintro e w1 ⟨rfl, rfl⟩
    go_wp2_with fail
    go_ret
    exact ⟨rfl, H.out, only_refl _ _ _⟩
  | some f =>
    obtain ⟨k, rfl, hk, hf⟩ := frAt_some hq
    obtain ⟨c0, c1, c2, z0, z1, z2⟩ := ra_cells h hf
    have hkey := I.keys k f hf
    obtain ⟨p0, p1⟩ := I.bd k f hf
    have HF := Lib.hid hf
    rw [has_in hk] at h53
    have H53 := Lib.hid h53
    have q0 : (0 : Int) ≤ (k : Int) := Int.natCast_nonneg _
    have q1 : (k : Int) < (fr.length : Int) := by omega
    by_cases hn : f.key = -1
    · have hr : pinR fr k = (false, fr) := by simp only [pinR, hq, hn]; rfl
      have e1 : decide (f.key < 0) = true := by rw [hn]; rfl
      rw [hr]
      clear h hq hr hf h53 hn hkey
      go_enter Try.func48, Try.ntmps48
      go_wp2_with fail
      refine H53.out.mono ?_
      rintro e w1 ⟨rfl, rfl⟩
      go_wp2_with fail
      go_ret
      exact ⟨rfl, H.out, only_refl _ _ _⟩
    · have hr := pin_ok hf hn
      have e1 : decide (f.key < 0) = false := decide_eq_false (by omega)
      rw [hr]
      clear h hq hr hf h53 hn hkey
      go_enter Try.func48, Try.ntmps48
      go_wp2_with fail
      refine H53.out.mono ?_
      rintro e w1 ⟨rfl, rfl⟩
      go_wp2_with fail
      go_ret
      exact ⟨rfl, ra_setPins H.out HF.out _, only_f (only_refl _ _ _) _ _⟩

set_option maxHeartbeats 1000000 in
theorem unpin49 (qb gb cap : Nat) (fr : List Fr) (hand m : Nat) (i : Int) (w : World) (h : RA w qb gb cap fr hand) (I : RInv fr m) (hm : m ≤ 1000000) :
    Calls Try.prog 49 #[.pointer (some ⟨qb, 0, none⟩), .int .i64 i] w fun e w' => e = .returned (.bool (unpinR fr i).1) ∧ RA w' qb gb cap (unpinR fr i).2 hand ∧ Only qb gb w w' := by
  have H := Lib.hid h
  have h53 := has53 qb gb cap fr hand i w h
  obtain ⟨x0, _, _⟩ := ra_slice h
  cases hq : frAt fr i with
  | none =>
    have hr : unpinR fr i = (false, fr) := by simp only [unpinR, hq]
    rw [frAt_has hq] at h53
    have H53 := Lib.hid h53
    rw [hr]
    clear h hq hr h53 x0
    go_enter Try.func49, Try.ntmps49
    go_wp2_with fail
    refine H53.out.mono ?_
    rintro e w1 ⟨rfl, rfl⟩
    go_wp2_with fail
    go_ret
    exact ⟨rfl, H.out, only_refl _ _ _⟩
  | some f =>
    obtain ⟨k, rfl, hk, hf⟩ := frAt_some hq
    obtain ⟨c0, c1, c2, z0, z1, z2⟩ := ra_cells h hf
    obtain ⟨p0, p1⟩ := I.bd k f hf
    have HF := Lib.hid hf
    rw [has_in hk] at h53
    have H53 := Lib.hid h53
    have q0 : (0 : Int) ≤ (k : Int) := Int.natCast_nonneg _
    have q1 : (k : Int) < (fr.length : Int) := by omega
    by_cases hn : f.pins = 0
    · have hr := unpin_zero hf hn
      have e1 : (f.pins == 0) = true := by simp [hn]
      rw [hr]
      clear h hq hr hf h53 hn
      go_enter Try.func49, Try.ntmps49
      go_wp2_with fail
      refine H53.out.mono ?_
      rintro e w1 ⟨rfl, rfl⟩
      go_wp2_with fail
      go_ret
      exact ⟨rfl, H.out, only_refl _ _ _⟩
    · have hr := unpin_pos hf hn
      have e1 : (f.pins == 0) = false := by simp [hn]
      rw [hr]
      clear h hq hr hf h53 hn
      go_enter Try.func49, Try.ntmps49
      go_wp2_with fail
      refine H53.out.mono ?_
      rintro e w1 ⟨rfl, rfl⟩
      go_wp2_with fail
      go_ret
      exact ⟨rfl, ra_setPins H.out HF.out _, only_f (only_refl _ _ _) _ _⟩

set_option maxHeartbeats 1000000 in
theorem touch47 (qb gb cap : Nat) (fr : List Fr) (hand m : Nat) (i : Int) (w : World) (h : RA w qb gb cap fr hand) (I : RInv fr m) :
    Calls Try.prog 47 #[.pointer (some ⟨qb, 0, none⟩), .int .i64 i] w fun e w' => e = .returned (.tuple #[]) ∧ RA w' qb gb cap (touchR fr i).2 hand ∧ Only qb gb w w' := by
  have H := Lib.hid h
  have h53 := has53 qb gb cap fr hand i w h
  obtain ⟨x0, _, _⟩ := ra_slice h
  cases hq : frAt fr i with
  | none =>
    have hr : touchR fr i = (false, fr) := by simp only [touchR, hq]
    rw [frAt_has hq] at h53
    have H53 := Lib.hid h53
    rw [hr]
    clear h hq hr h53 x0
    go_enter Try.func47, Try.ntmps47
    go_wp2_with fail
    refine H53.out.mono ?_
    rintro e w1 ⟨rfl, rfl⟩
    go_wp2_with fail
    go_end0
    exact ⟨rfl, H.out, only_refl _ _ _⟩
  | some f =>
    obtain ⟨k, rfl, hk, hf⟩ := frAt_some hq
    obtain ⟨c0, c1, c2, z0, z1, z2⟩ := ra_cells h hf
    have hkey := I.keys k f hf
    have HF := Lib.hid hf
    rw [has_in hk] at h53
    have H53 := Lib.hid h53
    have q0 : (0 : Int) ≤ (k : Int) := Int.natCast_nonneg _
    have q1 : (k : Int) < (fr.length : Int) := by omega
    by_cases hn : f.key = -1
    · have hr : touchR fr k = (false, fr) := by simp only [touchR, hq, hn]; rfl
      have e1 : decide (f.key ≥ 0) = false := by rw [hn]; rfl
      rw [hr]
      clear h hq hr hf h53 hn hkey
      go_enter Try.func47, Try.ntmps47
      go_wp2_with fail
      refine H53.out.mono ?_
      rintro e w1 ⟨rfl, rfl⟩
      go_wp2_with fail
      go_end0
      exact ⟨rfl, H.out, only_refl _ _ _⟩
    · have hr : touchR fr k = (true, fr.set k { f with mark := true }) := by simp only [touchR, hq, if_pos hn, Int.toNat_natCast]
      have e1 : decide (f.key ≥ 0) = true := decide_eq_true (by omega)
      rw [hr]
      clear h hq hr hf h53 hn hkey
      go_enter Try.func47, Try.ntmps47
      go_wp2_with fail
      refine H53.out.mono ?_
      rintro e w1 ⟨rfl, rfl⟩
      go_wp2_with fail
      go_end0
      exact ⟨rfl, ra_setMark H.out HF.out _, only_f (only_refl _ _ _) _ _⟩

set_option maxHeartbeats 1000000 in
theorem drop50 (qb gb cap : Nat) (fr : List Fr) (hand m : Nat) (i : Int) (w : World) (h : RA w qb gb cap fr hand) (I : RInv fr m) :
    Calls Try.prog 50 #[.pointer (some ⟨qb, 0, none⟩), .int .i64 i] w fun e w' => e = .returned (.bool (dropR fr i).1) ∧ RA w' qb gb cap (dropR fr i).2 hand ∧ Only qb gb w w' := by
  have H := Lib.hid h
  have h53 := has53 qb gb cap fr hand i w h
  obtain ⟨x0, _, _⟩ := ra_slice h
  cases hq : frAt fr i with
  | none =>
    have hr : dropR fr i = (false, fr) := by simp only [dropR, hq]
    rw [frAt_has hq] at h53
    have H53 := Lib.hid h53
    rw [hr]
    clear h hq hr h53 x0
    go_enter Try.func50, Try.ntmps50
    go_wp2_with fail
    refine H53.out.mono ?_
    rintro e w1 ⟨rfl, rfl⟩
    go_wp2_with fail
    go_ret
    exact ⟨rfl, H.out, only_refl _ _ _⟩
  | some f =>
    obtain ⟨k, rfl, hk, hf⟩ := frAt_some hq
    obtain ⟨c0, c1, c2, z0, z1, z2⟩ := ra_cells h hf
    obtain ⟨p0, p1⟩ := I.bd k f hf
    have HF := Lib.hid hf
    rw [has_in hk] at h53
    have H53 := Lib.hid h53
    have q0 : (0 : Int) ≤ (k : Int) := Int.natCast_nonneg _
    have q1 : (k : Int) < (fr.length : Int) := by omega
    by_cases hn : 0 < f.pins
    · have hr : dropR fr k = (false, fr) := by simp only [dropR, hq]; rw [if_neg (fun q => q hn)]
      have e1 : decide (f.pins > 0) = true := decide_eq_true hn
      rw [hr]
      clear h hq hr hf h53
      go_enter Try.func50, Try.ntmps50
      go_wp2_with fail
      refine H53.out.mono ?_
      rintro e w1 ⟨rfl, rfl⟩
      go_wp2_with fail
      go_ret
      exact ⟨rfl, H.out, only_refl _ _ _⟩
    · have hr := drop_in hf (by omega)
      have e1 : decide (f.pins > 0) = false := decide_eq_false hn
      rw [hr]
      clear h hq hr hf h53
      go_enter Try.func50, Try.ntmps50
      go_wp2_with fail
      refine H53.out.mono ?_
      rintro e w1 ⟨rfl, rfl⟩
      go_wp2_with fail
      go_ret
      exact ⟨rfl, ra_setAll H.out HF.out _ _ _, only_f (only_f (only_f (only_refl _ _ _) _ _) _ _) _ _⟩
end Go.Proofs.Ytecjccjgcdnpnaa
