/- Contracts of the functions of the package plan and of its reference: what each call answers, and that it makes new memory alone. -/
import Derived.Test.YtecjccjgcdnpnaaRows
import Derived.WalkKit
import Derived.WalkSpells
import Derived.WalkLawsBesides
import Derived.Below
import Derived.RegionTactic
import Derived.Deep.QuietTactic
import Derived.Deep.RegionWith
import Derived.BigQuiet
import Derived.Lib.Hide
import Derived.Laws.ResultCell
import Derived.Lib.MinMax
import Derived.Deep.RegionHeld3
namespace Go.Proofs.Ytecjccjgcdnpnaa
open Go.RowKit
set_option linter.unusedSimpArgs false
set_option linter.unusedVariables false

abbrev gv (p s l f : Int) : Value := .agg #[.int .i64 p, .int .i64 s, .int .i64 l, .int .i64 f]
def goodB (p s l f : Int) : Bool := decide (1 ≤ p) && decide (p ≤ 64) && decide (6 ≤ s) && decide (s ≤ 16) && decide (24 ≤ l) && decide (l ≤ 32) && decide (2 ≤ f) && decide (f ≤ 16)

theorem ret_bool {a b : Bool} (h : a = b) : Ending.returned (.bool a) = .returned (.bool b) := by rw [h]
theorem ret_int {k : IntKind} {a b : Int} (h : a = b) : Ending.returned (.int k a) = .returned (.int k b) := by rw [h]

theorem goodB_iff {p s l f : Int} : goodB p s l f = true ↔ (1 ≤ p ∧ p ≤ 64 ∧ 6 ≤ s ∧ s ≤ 16 ∧ 24 ≤ l ∧ l ≤ 32 ∧ 2 ≤ f ∧ f ≤ 16) := by
  simp only [goodB, Bool.and_eq_true, decide_eq_true_eq, and_assoc]

theorem bcell {W w1 : World} (hb : Below W.heap.size W w1) : (∀ b o, b < W.heap.size → w1.cell? ⟨b, o, none⟩ = W.cell? ⟨b, o, none⟩) ∧ (∀ b o, b < W.heap.size → w1.frozen? ⟨b, o, none⟩ = W.frozen? ⟨b, o, none⟩) :=
  ⟨fun b o h => hb.cell (p := ⟨b, o, none⟩) h, fun b o h => hb.frozen (p := ⟨b, o, none⟩) h⟩

theorem bel_step {w w1 w2 : World} (h : Below w.heap.size w w1) (h2 : Below w1.heap.size w1 w2) : Below w.heap.size w w2 := h.trans (h2.mono h.size)
theorem bel_box (w : World) (o : Obj) : Below w.heap.size w (w.alloc o) := (Below.refl _ _).alloc (Nat.le_refl _) _
theorem bel_new {w w1 : World} (h : Below w.heap.size w w1) (o : Obj) : Below w.heap.size w (w1.alloc o) := h.alloc h.size _
theorem bel_draw {w w1 : World} (h : Below w.heap.size w w1) (n : Nat) : Below w.heap.size w (w1.drewN n) := ⟨h.os, h.tape, h.output, h.size, h.block⟩
theorem bel_draw1 {w w1 : World} (h : Below w.heap.size w w1) : Below w.heap.size w w1.drew := ⟨h.os, h.tape, h.output, h.size, h.block⟩
theorem bel_set {w w1 : World} (h : Below w.heap.size w w1) (p : Addr) (v : Value) (hp : w.heap.size ≤ p.block) : Below w.heap.size w (w1.setCell p v) := h.setCell hp v

theorem i64_of (x : Int) (h0 : -9223372036854775808 ≤ x) (h1 : x ≤ 9223372036854775807) : IntKind.i64.wrap x = x := IntWalk.i64_in _ ⟨h0, h1⟩

theorem mul_bd {s l : Int} (h0 : 0 ≤ s) (h1 : s ≤ 16) (h2 : 0 ≤ l) (h3 : l ≤ 32) : 0 ≤ s * l ∧ s * l ≤ 512 := by
  refine ⟨Int.mul_nonneg h0 h2, ?_⟩
  have h : s * l ≤ 16 * 32 := Int.mul_le_mul h1 h3 h2 (by omega)
  omega

set_option maxHeartbeats 400000 in
theorem good17 (p s l f : Int) (w : World) :
    Calls Try.prog 17 #[gv p s l f] w fun e w' => e = .returned (.bool (goodB p s l f)) ∧ Below w.heap.size w w' := by
  go_enter Try.func17, Try.ntmps17
  go_wp2
  all_goals
    go_ret
    exact ⟨ret_bool (by simp [goodB] <;> omega), (Below.refl _ _).alloc (Nat.le_refl _) _⟩

set_option maxHeartbeats 400000 in
theorem good18 (p s l f : Int) (w : World) :
    Calls Try.prog 18 #[gv p s l f] w fun e w' => e = .returned (.bool (goodB p s l f)) ∧ Below w.heap.size w w' := by
  go_enter Try.func18, Try.ntmps18
  go_wp2
  all_goals
    go_ret
    exact ⟨ret_bool (by simp [goodB] <;> omega), (Below.refl _ _).alloc (Nat.le_refl _) _⟩

def mapsV (p s l f : Int) : Int := if goodB p s l f = true then (p - 1) / 8 + 1 else 0
def totalV (p s l f : Int) : Int := if goodB p s l f = true then 4 + s * l else 0
def capV (p s l f : Int) : Int := if goodB p s l f = true then max 0 (min p ((4 * (s - 4) - ((p - 1) / 8 + 1)) / 3)) else 0
def segV (p s l f n : Int) : Int := if goodB p s l f = true then (if n < 0 then 0 else if n ≥ s then 0 else 4 + n * l) else 0
def inB (p s l f n : Int) : Bool := goodB p s l f && (decide (4 ≤ n) && decide (n < 4 + s * l))
def ofS (p s l f n : Int) : Int := if inB p s l f n = true then (n - 4) / l else 0
def ofO (p s l f n : Int) : Int := if inB p s l f n = true then (n - 4) % l else 0
theorem bel_keep {W W' : World} (hb : Below W.heap.size W W') {a : Addr} {v : Value} (h : W.cell? a = some v) : W'.cell? a = some v := by
  rw [hb.cell (World.block_lt_of_cell? W _ h)]; exact h
theorem bel_keep1 {W W' : World} (hb : Below W.drew.heap.size W.drew W') {a : Addr} {v : Value} (h : W.cell? a = some v) : W'.cell? a = some v := by
  rw [hb.cell (World.block_lt_of_cell? W _ h)]; exact h

set_option maxHeartbeats 400000 in
theorem maps19 (p s l f : Int) (w : World) :
    Calls Try.prog 19 #[gv p s l f] w fun e w' => e = .returned (.int .i64 (mapsV p s l f)) ∧ Below w.heap.size w w' := by
  by_cases hg : goodB p s l f = true
  · obtain ⟨h1, h2, h3, h4, h5, h6, h7, h8⟩ := goodB_iff.1 hg
    have hm : mapsV p s l f = (p - 1) / 8 + 1 := by simp [mapsV, hg]
    rw [hm]; clear hm
    go_enter Try.func19, Try.ntmps19
    go_wp2_with fail
    refine (good17 p s l f _).mono ?_
    rintro e w1 ⟨rfl, hb1⟩
    obtain ⟨hc1, hf1⟩ := bcell hb1
    rw [hg]
    clear hg
    go_wp2_with fail
    go_ret
    exact ⟨rfl, ((Below.refl _ _).alloc (Nat.le_refl _) _).trans (hb1.mono (by simp))⟩
  · have hg : goodB p s l f = false := by simpa using hg
    have hm : mapsV p s l f = 0 := by simp [mapsV, hg]
    rw [hm]; clear hm
    go_enter Try.func19, Try.ntmps19
    go_wp2_with fail
    refine (good17 p s l f _).mono ?_
    rintro e w1 ⟨rfl, hb1⟩
    obtain ⟨hc1, hf1⟩ := bcell hb1
    rw [hg]
    clear hg
    go_wp2_with fail
    go_ret
    exact ⟨rfl, ((Below.refl _ _).alloc (Nat.le_refl _) _).trans (hb1.mono (by simp))⟩

set_option maxHeartbeats 400000 in
theorem total20 (p s l f : Int) (w : World) :
    Calls Try.prog 20 #[gv p s l f] w fun e w' => e = .returned (.int .i64 (totalV p s l f)) ∧ Below w.heap.size w w' := by
  by_cases hg : goodB p s l f = true
  · obtain ⟨h1, h2, h3, h4, h5, h6, h7, h8⟩ := goodB_iff.1 hg
    have hm2 := mul_bd (by omega : 0 ≤ s) (by omega) (by omega : 0 ≤ l) (by omega)
    obtain ⟨hm3, hm4⟩ := hm2
    have hm : totalV p s l f = 4 + s * l := by simp [totalV, hg]
    rw [hm]; clear hm
    go_enter Try.func20, Try.ntmps20
    go_wp2_with fail
    refine (good17 p s l f _).mono ?_
    rintro e w1 ⟨rfl, hb1⟩
    obtain ⟨hc1, hf1⟩ := bcell hb1
    rw [hg]
    clear hg
    go_wp2_with fail
    go_ret
    exact ⟨rfl, ((Below.refl _ _).alloc (Nat.le_refl _) _).trans (hb1.mono (by simp))⟩
  · have hg : goodB p s l f = false := by simpa using hg
    have hm : totalV p s l f = 0 := by simp [totalV, hg]
    rw [hm]; clear hm
    go_enter Try.func20, Try.ntmps20
    go_wp2_with fail
    refine (good17 p s l f _).mono ?_
    rintro e w1 ⟨rfl, hb1⟩
    obtain ⟨hc1, hf1⟩ := bcell hb1
    rw [hg]
    clear hg
    go_wp2_with fail
    go_ret
    exact ⟨rfl, ((Below.refl _ _).alloc (Nat.le_refl _) _).trans (hb1.mono (by simp))⟩

set_option maxHeartbeats 400000 in
theorem seg22 (p s l f n : Int) (w : World)  :
    Calls Try.prog 22 #[gv p s l f, .int .i64 n] w fun e w' => e = .returned (.int .i64 (segV p s l f n)) ∧ Below w.heap.size w w' := by
  by_cases hg : goodB p s l f = true
  · obtain ⟨h1, h2, h3, h4, h5, h6, h7, h8⟩ := goodB_iff.1 hg
    by_cases ha : n < 0
    · have hm : segV p s l f n = 0 := by simp only [segV, hg, if_true, if_pos ha]
      rw [hm]; clear hm
      go_enter Try.func22, Try.ntmps22
      go_wp2_with fail
      refine (good17 p s l f _).mono ?_
      rintro e w1 ⟨rfl, hb1⟩
      obtain ⟨hc1, hf1⟩ := bcell hb1
      rw [hg]
      clear hg
      go_wp2_with fail
      go_ret
      exact ⟨rfl, ((Below.refl _ _).alloc (Nat.le_refl _) _).trans (hb1.mono (by simp))⟩
    · by_cases hb : n ≥ s
      · have hm : segV p s l f n = 0 := by simp only [segV, hg, if_true, if_neg ha, if_pos hb]
        rw [hm]; clear hm
        go_enter Try.func22, Try.ntmps22
        go_wp2_with fail
        refine (good17 p s l f _).mono ?_
        rintro e w1 ⟨rfl, hb1⟩
        obtain ⟨hc1, hf1⟩ := bcell hb1
        rw [hg]
        clear hg
        go_wp2_with fail
        go_ret
        exact ⟨rfl, ((Below.refl _ _).alloc (Nat.le_refl _) _).trans (hb1.mono (by simp))⟩
      · have hm : segV p s l f n = 4 + n * l := by simp only [segV, hg, if_true, if_neg ha, if_neg hb]
        rw [hm]; clear hm
        obtain ⟨hm3, hm4⟩ := mul_bd (by omega : 0 ≤ n) (by omega) (by omega : 0 ≤ l) (by omega)
        go_enter Try.func22, Try.ntmps22
        go_wp2_with fail
        refine (good17 p s l f _).mono ?_
        rintro e w1 ⟨rfl, hb1⟩
        obtain ⟨hc1, hf1⟩ := bcell hb1
        rw [hg]
        clear hg
        go_wp2_with fail
        go_ret
        exact ⟨rfl, ((Below.refl _ _).alloc (Nat.le_refl _) _).trans (hb1.mono (by simp))⟩
  · have hg : goodB p s l f = false := by simpa using hg
    have hm : segV p s l f n = 0 := by simp [segV, hg]
    rw [hm]; clear hm
    go_enter Try.func22, Try.ntmps22
    go_wp2_with fail
    refine (good17 p s l f _).mono ?_
    rintro e w1 ⟨rfl, hb1⟩
    obtain ⟨hc1, hf1⟩ := bcell hb1
    rw [hg]
    clear hg
    go_wp2_with fail
    go_ret
    exact ⟨rfl, ((Below.refl _ _).alloc (Nat.le_refl _) _).trans (hb1.mono (by simp))⟩

set_option maxHeartbeats 400000 in
theorem seg23 (p s l f n : Int) (w : World)  :
    Calls Try.prog 23 #[gv p s l f, .int .i64 n] w fun e w' => e = .returned (.int .i64 (segV p s l f n)) ∧ Below w.heap.size w w' := by
  by_cases hg : goodB p s l f = true
  · obtain ⟨h1, h2, h3, h4, h5, h6, h7, h8⟩ := goodB_iff.1 hg
    by_cases ha : n < 0
    · have hm : segV p s l f n = 0 := by simp only [segV, hg, if_true, if_pos ha]
      rw [hm]; clear hm
      go_enter Try.func23, Try.ntmps23
      go_wp2_with fail
      refine (good18 p s l f _).mono ?_
      rintro e w1 ⟨rfl, hb1⟩
      obtain ⟨hc1, hf1⟩ := bcell hb1
      rw [hg]
      clear hg
      go_wp2_with fail
      go_ret
      exact ⟨rfl, ((Below.refl _ _).alloc (Nat.le_refl _) _).trans (hb1.mono (by simp))⟩
    · by_cases hb : n ≥ s
      · have hm : segV p s l f n = 0 := by simp only [segV, hg, if_true, if_neg ha, if_pos hb]
        rw [hm]; clear hm
        go_enter Try.func23, Try.ntmps23
        go_wp2_with fail
        refine (good18 p s l f _).mono ?_
        rintro e w1 ⟨rfl, hb1⟩
        obtain ⟨hc1, hf1⟩ := bcell hb1
        rw [hg]
        clear hg
        go_wp2_with fail
        go_ret
        exact ⟨rfl, ((Below.refl _ _).alloc (Nat.le_refl _) _).trans (hb1.mono (by simp))⟩
      · have hm : segV p s l f n = 4 + n * l := by simp only [segV, hg, if_true, if_neg ha, if_neg hb]
        rw [hm]; clear hm
        obtain ⟨hm3, hm4⟩ := mul_bd (by omega : 0 ≤ n) (by omega) (by omega : 0 ≤ l) (by omega)
        go_enter Try.func23, Try.ntmps23
        go_wp2_with fail
        refine (good18 p s l f _).mono ?_
        rintro e w1 ⟨rfl, hb1⟩
        obtain ⟨hc1, hf1⟩ := bcell hb1
        rw [hg]
        clear hg
        go_wp2_with fail
        go_ret
        exact ⟨rfl, ((Below.refl _ _).alloc (Nat.le_refl _) _).trans (hb1.mono (by simp))⟩
  · have hg : goodB p s l f = false := by simpa using hg
    have hm : segV p s l f n = 0 := by simp [segV, hg]
    rw [hm]; clear hm
    go_enter Try.func23, Try.ntmps23
    go_wp2_with fail
    refine (good18 p s l f _).mono ?_
    rintro e w1 ⟨rfl, hb1⟩
    obtain ⟨hc1, hf1⟩ := bcell hb1
    rw [hg]
    clear hg
    go_wp2_with fail
    go_ret
    exact ⟨rfl, ((Below.refl _ _).alloc (Nat.le_refl _) _).trans (hb1.mono (by simp))⟩

def partV (p s l f n : Int) : Int := if n < 4 then 0 else if n ≥ totalV p s l f then 2 else 1

set_option maxHeartbeats 400000 in
theorem part54 (p s l f n : Int) (w : World) :
    Calls Try.prog 54 #[gv p s l f, .int .i64 n] w fun e w' => e = .returned (.int .i64 (partV p s l f n)) ∧ Below w.heap.size w w' := by
  by_cases ha : n < 4
  · have hm : partV p s l f n = 0 := by simp only [partV, if_pos ha]
    rw [hm]; clear hm
    go_enter Try.func54, Try.ntmps54
    go_wp2_with fail
    go_ret
    exact ⟨rfl, (Below.refl _ _).alloc (Nat.le_refl _) _⟩
  · by_cases hb : n ≥ totalV p s l f
    · have hm : partV p s l f n = 2 := by simp only [partV, if_neg ha, if_pos hb]
      rw [hm]; clear hm
      go_enter Try.func54, Try.ntmps54
      go_wp2_with fail
      refine (total20 p s l f _).mono ?_
      rintro e w1 ⟨rfl, hb1⟩
      go_wp2_with fail
      go_ret
      exact ⟨rfl, ((Below.refl _ _).alloc (Nat.le_refl _) _).trans (hb1.mono (by simp))⟩
    · have hm : partV p s l f n = 1 := by simp only [partV, if_neg ha, if_neg hb]
      rw [hm]; clear hm
      go_enter Try.func54, Try.ntmps54
      go_wp2_with fail
      refine (total20 p s l f _).mono ?_
      rintro e w1 ⟨rfl, hb1⟩
      go_wp2_with fail
      go_ret
      exact ⟨rfl, ((Below.refl _ _).alloc (Nat.le_refl _) _).trans (hb1.mono (by simp))⟩

theorem inB_true {p s l f n : Int} (h : inB p s l f n = true) : goodB p s l f = true ∧ 4 ≤ n ∧ n < 4 + s * l := by
  simpa [inB] using h

set_option maxHeartbeats 400000 in
theorem of16 (p s l f n : Int) (w : World) :
    Calls Try.prog 16 #[gv p s l f, .int .i64 n] w fun e w' => e = .returned (.tuple #[.int .i64 (ofS p s l f n), .int .i64 (ofO p s l f n), .bool (inB p s l f n)]) ∧ Below w.heap.size w w' := by
  by_cases hi : inB p s l f n = true
  · obtain ⟨hg, hn1, hn2⟩ := inB_true hi
    obtain ⟨h1, h2, h3, h4, h5, h6, h7, h8⟩ := goodB_iff.1 hg
    obtain ⟨hm3, hm4⟩ := mul_bd (by omega : 0 ≤ s) (by omega) (by omega : 0 ≤ l) (by omega)
    have e1 : ofS p s l f n = (n - 4) / l := by simp only [ofS, hi, if_true]
    have e2 : ofO p s l f n = (n - 4) % l := by simp only [ofO, hi, if_true]
    have e3 : partV p s l f n = 1 := by simp only [partV, totalV, hg, if_true]; rw [if_neg (by omega), if_neg (by omega)]
    have E3 := Lib.hid e3
    rw [e1, e2, hi]
    clear e1 e2 e3 hi
    have q1 : 0 ≤ n - 4 := by omega
    have q2 : ¬ (l = 0) := by omega
    go_enter Try.func16, Try.ntmps16
    go_wp2_with fail
    refine (good17 p s l f _).mono ?_
    rintro e w1 ⟨rfl, hb1⟩
    obtain ⟨hc1, hf1⟩ := bcell hb1
    rw [hg]
    clear hg
    go_wp2_with fail
    refine (part54 p s l f n _).mono ?_
    rintro e w2 ⟨rfl, hb2⟩
    obtain ⟨hc2, hf2⟩ := bcell hb2
    have hz := hb1.size
    simp at hz
    have hlt : w.heap.size < w1.heap.size := by omega
    rw [E3.out]
    clear E3
    go_wp2_with fail
    go_quiet (fail)
    go_wp2_with fail
    go_ret3
    exact ⟨rfl, bel_draw (bel_step (bel_step (bel_box w _) hb1) hb2) _⟩
  · have hi : inB p s l f n = false := by simpa using hi
    have e1 : ofS p s l f n = 0 := by simp [ofS, hi]
    have e2 : ofO p s l f n = 0 := by simp [ofO, hi]
    rw [e1, e2, hi]
    clear e1 e2
    by_cases hg : goodB p s l f = true
    · obtain ⟨h1, h2, h3, h4, h5, h6, h7, h8⟩ := goodB_iff.1 hg
      have hor : partV p s l f n = 0 ∨ partV p s l f n = 2 := by
        by_cases ha : n < 4
        · exact .inl (by simp only [partV, if_pos ha])
        · right
          have : ¬ n < 4 + s * l := by
            intro hlt
            have : inB p s l f n = true := by simp [inB, hg]; omega
            rw [hi] at this; cases this
          simp only [partV, totalV, hg, if_true, if_neg ha]
          rw [if_pos (by omega)]
      clear hi
      rcases hor with hp | hp
      all_goals
        have E3 := Lib.hid hp
        clear hp
        go_enter Try.func16, Try.ntmps16
        go_wp2_with fail
        refine (good17 p s l f _).mono ?_
        rintro e w1 ⟨rfl, hb1⟩
        obtain ⟨hc1, hf1⟩ := bcell hb1
        rw [hg]
        go_wp2_with fail
        refine (part54 p s l f n _).mono ?_
        rintro e w2 ⟨rfl, hb2⟩
        rw [E3.out]
        clear E3
        go_wp2_with fail
        go_ret3
        exact ⟨rfl, bel_step (bel_step (bel_box w _) hb1) hb2⟩
    · have hg : goodB p s l f = false := by simpa using hg
      clear hi
      go_enter Try.func16, Try.ntmps16
      go_wp2_with fail
      refine (good17 p s l f _).mono ?_
      rintro e w1 ⟨rfl, hb1⟩
      rw [hg]
      clear hg
      go_wp2_with fail
      go_ret3
      exact ⟨rfl, bel_step (bel_box w _) hb1⟩

set_option maxHeartbeats 400000 in
theorem small55 (w : World) :
    Calls Try.prog 55 #[] w fun e w' => e = .returned (gv 16 8 24 4) ∧ Below w.heap.size w w' := by
  go_enter Try.func55, Try.ntmps55
  go_wp2_with fail
  exact bodyPost_ret (v := gv 16 8 24 4) (by simp [results, Try.results55, go_sem]) rfl ⟨rfl, by repeat (first | exact bel_box _ _ | exact Below.refl _ _ | apply bel_new | refine bel_set ?_ _ _ (Nat.le_refl _))⟩

set_option maxHeartbeats 400000 in
theorem cap21 (p s l f : Int) (w : World) :
    Calls Try.prog 21 #[gv p s l f] w fun e w' => e = .returned (.int .i64 (capV p s l f)) ∧ Below w.heap.size w w' := by
  by_cases hg : goodB p s l f = true
  · obtain ⟨h1, h2, h3, h4, h5, h6, h7, h8⟩ := goodB_iff.1 hg
    have e1 : capV p s l f = max 0 (min p ((4 * (s - 4) - ((p - 1) / 8 + 1)) / 3)) := by simp only [capV, hg, if_true]
    have e2 : mapsV p s l f = (p - 1) / 8 + 1 := by simp only [mapsV, hg, if_true]
    rw [e1]
    clear e1
    have E2 := Lib.hid e2
    clear e2
    go_enter Try.func21, Try.ntmps21
    go_wp2_with fail
    refine (good17 p s l f _).mono ?_
    rintro e w1 ⟨rfl, hb1⟩
    obtain ⟨hc1, hf1⟩ := bcell hb1
    have hz := hb1.size
    simp at hz
    have hlt : w.heap.size < w1.heap.size := by omega
    rw [hg]
    clear hg
    go_wp2_with fail
    have hX : (w1.cell? ⟨w.heap.size, 0, none⟩ = some (.int .i64 p) ∧ w1.cell? ⟨w.heap.size, 1, none⟩ = some (.int .i64 s) ∧ w1.cell? ⟨w.heap.size, 2, none⟩ = some (.int .i64 l) ∧ w1.cell? ⟨w.heap.size, 3, none⟩ = some (.int .i64 f)) := by
      refine ⟨?_, ?_, ?_, ?_⟩ <;> (rw [hc1 _ _ (by simp)]; go_simp)
    obtain ⟨x0, x1, x2, x3⟩ := hX
    clear hc1 hf1
    go_region_held3 (fun w' => w'.cell? ⟨w.heap.size, 0, none⟩ = some (.int .i64 p) ∧ w'.cell? ⟨w.heap.size, 1, none⟩ = some (.int .i64 s) ∧ w'.cell? ⟨w.heap.size, 2, none⟩ = some (.int .i64 l) ∧ w'.cell? ⟨w.heap.size, 3, none⟩ = some (.int .i64 f))
      (first | go_keep | (refine ⟨?_, ?_, ?_, ?_⟩ <;> (rw [hb2.cell (by simp; omega)]; simpa using ‹_›)))
      ((go_at_call 19; refine (maps19 p s l f _).mono ?_; rintro e w2 ⟨rfl, hb2⟩))
    go_wp2_with fail
    go_ret
    refine ⟨ret_int ?_, bel_step (bel_draw1 (bel_step (bel_box w _) hb1)) hb2⟩
    rw [E2.out, i64_of (s - 4) (by omega) (by omega), i64_of (4 * (s - 4)) (by omega) (by omega), i64_of (4 * (s - 4) - ((p - 1) / 8 + 1)) (by omega) (by omega), Int.tdiv_eq_ediv_of_nonneg (by omega), i64_of _ (by omega) (by omega)]
  · have hg : goodB p s l f = false := by simpa using hg
    have e1 : capV p s l f = 0 := by simp [capV, hg]
    rw [e1]
    clear e1
    go_enter Try.func21, Try.ntmps21
    go_wp2_with fail
    refine (good17 p s l f _).mono ?_
    rintro e w1 ⟨rfl, hb1⟩
    rw [hg]
    clear hg
    go_wp2_with fail
    go_ret
    exact ⟨rfl, bel_step (bel_box w _) hb1⟩

set_option maxHeartbeats 400000 in
theorem sizes14 (p s l f : Int) (w : World) :
    Calls Try.prog 14 #[gv p s l f] w fun e w' => e = .returned (.agg #[.int .i64 (mapsV p s l f), .int .i64 (totalV p s l f), .int .i64 (capV p s l f)]) ∧ Below w.heap.size w w' := by
  by_cases hg : goodB p s l f = true
  · obtain ⟨h1, h2, h3, h4, h5, h6, h7, h8⟩ := goodB_iff.1 hg
    obtain ⟨hm3, hm4⟩ := mul_bd (by omega : 0 ≤ s) (by omega) (by omega : 0 ≤ l) (by omega)
    have e1 : mapsV p s l f = (p + 7) / 8 := by simp only [mapsV, hg, if_true]; omega
    have e2 : totalV p s l f = 4 + s * l := by simp only [totalV, hg, if_true]
    have e3 : capV p s l f = max 0 (min p ((4 * (s - 4) - (p + 7) / 8) / 3)) := by
      simp only [capV, hg, if_true]
      rw [show (p - 1) / 8 + 1 = (p + 7) / 8 by omega]
    rw [e1, e2, e3]
    clear e1 e2 e3
    go_enter Try.func14, Try.ntmps14
    go_wp2_with fail
    refine (good18 p s l f _).mono ?_
    rintro e w1 ⟨rfl, hb1⟩
    obtain ⟨hc1, hf1⟩ := bcell hb1
    have hz := hb1.size
    simp at hz
    have hlt : w.heap.size < w1.heap.size := by omega
    have hlt2 : w.heap.size + 1 < w1.heap.size := by omega
    rw [hg]
    clear hg
    go_wp2_with fail
    exact bodyPost_ret (v := .agg #[.int .i64 ((p + 7) / 8), .int .i64 (4 + s * l), .int .i64 (max 0 (min p ((4 * (s - 4) - (p + 7) / 8) / 3)))]) (by simp [results, Try.results14, go_sem, hlt, hlt2, hc1]) rfl ⟨rfl, by repeat (first | exact bel_step (bel_new (bel_box w _) _) hb1 | apply bel_new | refine bel_set ?_ _ _ (by simp))⟩
  · have hg : goodB p s l f = false := by simpa using hg
    have e1 : mapsV p s l f = 0 := by simp [mapsV, hg]
    have e2 : totalV p s l f = 0 := by simp [totalV, hg]
    have e3 : capV p s l f = 0 := by simp [capV, hg]
    rw [e1, e2, e3]
    clear e1 e2 e3
    go_enter Try.func14, Try.ntmps14
    go_wp2_with fail
    refine (good18 p s l f _).mono ?_
    rintro e w1 ⟨rfl, hb1⟩
    obtain ⟨hc1, hf1⟩ := bcell hb1
    have hz := hb1.size
    simp at hz
    have hlt : w.heap.size < w1.heap.size := by omega
    have hlt2 : w.heap.size + 1 < w1.heap.size := by omega
    rw [hg]
    clear hg
    go_wp2_with fail
    exact bodyPost_ret (v := .agg #[.int .i64 0, .int .i64 0, .int .i64 0]) (by simp [results, Try.results14, go_sem, hlt, hlt2, hc1]) rfl ⟨rfl, by repeat (first | exact bel_step (bel_new (bel_box w _) _) hb1 | apply bel_new | refine bel_set ?_ _ _ (by simp))⟩

theorem field25 (a b c : Int) (w : World) : (Instr.field 25 (.agg #[.int .i64 a, .int .i64 b, .int .i64 c]) 1).run Try.prog w = .ok (.int .i64 b) w := by kernel_rfl
theorem field25_0 (a b c : Int) (w : World) : (Instr.field 25 (.agg #[.int .i64 a, .int .i64 b, .int .i64 c]) 0).run Try.prog w = .ok (.int .i64 a) w := by kernel_rfl
theorem field25_2 (a b c : Int) (w : World) : (Instr.field 25 (.agg #[.int .i64 a, .int .i64 b, .int .i64 c]) 2).run Try.prog w = .ok (.int .i64 c) w := by kernel_rfl
attribute [local go_sem] field25 field25_0 field25_2

set_option maxHeartbeats 400000 in
theorem where15 (p s l f n : Int) (w : World) :
    Calls Try.prog 15 #[gv p s l f, .int .i64 n] w fun e w' => e = .returned (.agg #[.int .i64 (ofS p s l f n), .int .i64 (ofO p s l f n), .bool (inB p s l f n)]) ∧ Below w.heap.size w w' := by
  by_cases hi : inB p s l f n = true
  · obtain ⟨hg, hn1, hn2⟩ := inB_true hi
    obtain ⟨h1, h2, h3, h4, h5, h6, h7, h8⟩ := goodB_iff.1 hg
    obtain ⟨hm3, hm4⟩ := mul_bd (by omega : 0 ≤ s) (by omega) (by omega : 0 ≤ l) (by omega)
    have e1 : ofS p s l f n = (n - 4) / l := by simp only [ofS, hi, if_true]
    have e2 : ofO p s l f n = (n - 4) % l := by simp only [ofO, hi, if_true]
    have e3 : totalV p s l f = 4 + s * l := by simp only [totalV, hg, if_true]
    have E3 := Lib.hid e3
    rw [e1, e2, hi]
    clear e1 e2 e3 hi
    have q1 : 0 ≤ n - 4 := by omega
    have q2 : ¬ (l = 0) := by omega
    go_enter Try.func15, Try.ntmps15
    go_wp2_with fail
    refine (good18 p s l f _).mono ?_
    rintro e w1 ⟨rfl, hb1⟩
    obtain ⟨hc1, hf1⟩ := bcell hb1
    have hz1 := hb1.size
    simp at hz1
    rw [hg]
    clear hg
    go_wp2_with fail
    refine (sizes14 p s l f _).mono ?_
    rintro e w2 ⟨rfl, hb2⟩
    obtain ⟨hc2, hf2⟩ := bcell hb2
    have hz2 := hb2.size
    have hlt : w.heap.size < w1.heap.size := by omega
    have hlt2 : w.heap.size + 1 < w1.heap.size := by omega
    rw [E3.out]
    clear E3
    go_wp2_with fail
    go_region
    go_wp2_with fail
    exact bodyPost_ret (v := .agg #[.int .i64 ((n - 4) / l), .int .i64 ((n - 4) % l), .bool true]) (by simp [results, Try.results15, go_sem, hlt, hlt2, hc1, hc2]) rfl ⟨rfl, by repeat (first | exact bel_step (bel_step (bel_new (bel_box w _) _) hb1) hb2 | apply bel_new | apply bel_draw1 | refine bel_set ?_ _ _ (by simp))⟩
  · have hi : inB p s l f n = false := by simpa using hi
    have e1 : ofS p s l f n = 0 := by simp [ofS, hi]
    have e2 : ofO p s l f n = 0 := by simp [ofO, hi]
    rw [e1, e2, hi]
    clear e1 e2
    by_cases hg : goodB p s l f = true
    · by_cases ha : n < 4
      · clear hi
        go_enter Try.func15, Try.ntmps15
        go_wp2_with fail
        refine (good18 p s l f _).mono ?_
        rintro e w1 ⟨rfl, hb1⟩
        obtain ⟨hc1, hf1⟩ := bcell hb1
        have hz1 := hb1.size
        simp at hz1
        have hlt : w.heap.size < w1.heap.size := by omega
        have hlt2 : w.heap.size + 1 < w1.heap.size := by omega
        rw [hg]
        clear hg
        go_wp2_with fail
        exact bodyPost_ret (v := .agg #[.int .i64 0, .int .i64 0, .bool false]) (by simp [results, Try.results15, go_sem, hlt, hlt2, hc1]) rfl ⟨rfl, by repeat (first | exact bel_step (bel_new (bel_box w _) _) hb1 | apply bel_new | apply bel_draw1 | refine bel_set ?_ _ _ (by simp))⟩
      · have e3 : totalV p s l f ≤ n := by
          simp only [totalV, hg, if_true]
          apply Int.not_lt.1
          intro hlt
          have : inB p s l f n = true := by simp [inB, hg]; omega
          rw [hi] at this; cases this
        clear hi
        go_enter Try.func15, Try.ntmps15
        go_wp2_with fail
        refine (good18 p s l f _).mono ?_
        rintro e w1 ⟨rfl, hb1⟩
        obtain ⟨hc1, hf1⟩ := bcell hb1
        have hz1 := hb1.size
        simp at hz1
        rw [hg]
        clear hg
        go_wp2_with fail
        refine (sizes14 p s l f _).mono ?_
        rintro e w2 ⟨rfl, hb2⟩
        obtain ⟨hc2, hf2⟩ := bcell hb2
        have hz2 := hb2.size
        have hlt : w.heap.size < w1.heap.size := by omega
        have hlt2 : w.heap.size + 1 < w1.heap.size := by omega
        go_wp2_with fail
        exact bodyPost_ret (v := .agg #[.int .i64 0, .int .i64 0, .bool false]) (by simp [results, Try.results15, go_sem, hlt, hlt2, hc1, hc2]) rfl ⟨rfl, by repeat (first | exact bel_step (bel_step (bel_new (bel_box w _) _) hb1) hb2 | apply bel_new | apply bel_draw1 | refine bel_set ?_ _ _ (by simp))⟩
    · have hg : goodB p s l f = false := by simpa using hg
      clear hi
      go_enter Try.func15, Try.ntmps15
      go_wp2_with fail
      refine (good18 p s l f _).mono ?_
      rintro e w1 ⟨rfl, hb1⟩
      obtain ⟨hc1, hf1⟩ := bcell hb1
      have hz1 := hb1.size
      simp at hz1
      have hlt : w.heap.size < w1.heap.size := by omega
      have hlt2 : w.heap.size + 1 < w1.heap.size := by omega
      rw [hg]
      clear hg
      go_wp2_with fail
      exact bodyPost_ret (v := .agg #[.int .i64 0, .int .i64 0, .bool false]) (by simp [results, Try.results15, go_sem, hlt, hlt2, hc1]) rfl ⟨rfl, by repeat (first | exact bel_step (bel_new (bel_box w _) _) hb1 | apply bel_new | apply bel_draw1 | refine bel_set ?_ _ _ (by simp))⟩

theorem good_ex : goodB 16 8 24 4 = true := by decide
theorem good_no : goodB 16 5 24 4 = false := by decide
theorem maps_ex : mapsV 16 8 24 4 = 2 := by decide
theorem total_ex : totalV 16 8 24 4 = 196 := by decide
theorem cap_ex : capV 16 8 24 4 = 4 := by decide
theorem seg_ex : segV 16 8 24 4 1 = 28 := by decide
theorem ofS_ex : ofS 16 8 24 4 30 = 1 := by decide
theorem ofO_ex : ofO 16 8 24 4 30 = 2 := by decide
theorem inB_ex : inB 16 8 24 4 30 = true := by decide

set_option maxHeartbeats 400000 in
theorem wakes24 (w : World) :
    Calls Try.prog 24 #[] w fun e w' => e = .returned (.bool true) ∧ Below w.heap.size w w' := by
  go_enter Try.func24, Try.ntmps24
  go_wp2_with fail
  refine (small55 _).mono ?_
  rintro e w1 ⟨rfl, hb1⟩
  obtain ⟨hc1, hf1⟩ := bcell hb1
  have hz1 := hb1.size
  go_wp2_with fail
  refine (of16 16 8 24 4 30 _).mono ?_
  rintro e w2 ⟨rfl, hb2⟩
  obtain ⟨hc2, hf2⟩ := bcell hb2
  have hz2 := hb2.size
  simp at hz2
  rw [ofS_ex, ofO_ex, inB_ex]
  go_wp2_with fail
  refine (good17 16 8 24 4 _).mono ?_
  rintro e w3 ⟨rfl, hb3⟩
  obtain ⟨hc3, hf3⟩ := bcell hb3
  have hz3 := hb3.size
  have hl2 : w1.heap.size < w2.heap.size := by omega
  have hl3 : w1.heap.size < w3.heap.size := by omega
  rw [good_ex]
  go_wp2_with fail
  refine (maps19 16 8 24 4 _).mono ?_
  rintro e w4 ⟨rfl, hb4⟩
  obtain ⟨hc4, hf4⟩ := bcell hb4
  have hz4 := hb4.size
  have hl4 : w1.heap.size < w4.heap.size := by omega
  rw [maps_ex]
  go_wp2_with fail
  refine (total20 16 8 24 4 _).mono ?_
  rintro e w5 ⟨rfl, hb5⟩
  obtain ⟨hc5, hf5⟩ := bcell hb5
  have hz5 := hb5.size
  have hl5 : w1.heap.size < w5.heap.size := by omega
  rw [total_ex]
  go_wp2_with fail
  refine (cap21 16 8 24 4 _).mono ?_
  rintro e w6 ⟨rfl, hb6⟩
  obtain ⟨hc6, hf6⟩ := bcell hb6
  have hz6 := hb6.size
  have hl6 : w1.heap.size < w6.heap.size := by omega
  rw [cap_ex]
  go_wp2_with fail
  refine (seg22 16 8 24 4 1 _).mono ?_
  rintro e w7 ⟨rfl, hb7⟩
  rw [seg_ex]
  go_wp2_with fail
  refine (good17 16 5 24 4 _).mono ?_
  rintro e w8 ⟨rfl, hb8⟩
  rw [good_no]
  go_wp2_with fail
  go_ret
  exact ⟨rfl, bel_step (bel_step (bel_step (bel_step (bel_step (bel_step (bel_step (bel_new (Below.trans (Below.refl _ _) hb1) _) hb2) hb3) hb4) hb5) hb6) hb7) hb8⟩

end Go.Proofs.Ytecjccjgcdnpnaa
