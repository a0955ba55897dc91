/- Contracts of the clock's methods. -/
import Derived.Test.YtecjccjgcdnpnaaMem
import Derived.OwnWalk
import Derived.Laws.MakeOwn
namespace Go.Proofs.Ytecjccjgcdnpnaa
open Go.RowKit
set_option linter.unusedSimpArgs false
set_option linter.unusedVariables false

structure Fr where
  key : Int
  mark : Bool
  pins : Int

/-- A frame's three cells stand one behind the other. -/
def FA (w : World) (fb : Nat) (fr : List Fr) : Prop :=
  ∃ cs : Array Value, Blk w fb 77 cs ∧ ∀ i f, fr[i]? = some f → cs[i * 3]? = some (.int .i64 f.key) ∧ cs[i * 3 + 1]? = some (.bool f.mark) ∧ cs[i * 3 + 2]? = some (.int .i64 f.pins)

def CA (w : World) (cb fb : Nat) (fr : List Fr) (hand : Nat) : Prop :=
  Blk w cb 75 #[.slice (some ⟨fb, 0, none⟩) fr.length fr.length, .int .i64 hand] ∧ FA w fb fr ∧ fr.length ≤ 16

/-- At most the two blocks of the clock have turned, and new ones have come. -/
structure Only (cb fb : Nat) (w w' : World) : Prop where
  os : w'.os = w.os
  tape : w'.tape = w.tape
  output : w'.output = w.output
  size : w.heap.size ≤ w'.heap.size
  block : ∀ k, k < w.heap.size → k ≠ cb → k ≠ fb → w'.heap[k]? = w.heap[k]?

section
variable {w w' w'' : World} {cb fb : Nat} {fr : List Fr} {hand : Nat}
theorem only_refl (w : World) (cb fb : Nat) : Only cb fb w w := ⟨rfl, rfl, rfl, Nat.le_refl _, fun _ _ _ _ => rfl⟩
theorem only_trans (h : Only cb fb w w') (k : Only cb fb w' w'') : Only cb fb w w'' :=
  ⟨k.os.trans h.os, k.tape.trans h.tape, k.output.trans h.output, Nat.le_trans h.size k.size, fun i hi h1 h2 => (k.block i (Nat.lt_of_lt_of_le hi h.size) h1 h2).trans (h.block i hi h1 h2)⟩
theorem only_of_below (h : Below w.heap.size w w') (cb fb : Nat) : Only cb fb w w' := ⟨h.os, h.tape, h.output, h.size, fun i hi _ _ => h.block i hi⟩
theorem only_set (h : Only cb fb w w') {p : Addr} (hp : p.block = cb ∨ p.block = fb) (v : Value) : Only cb fb w (w'.setCell p v) :=
  ⟨h.os, h.tape, h.output, by simpa using h.size, fun i hi h1 h2 => by
    have hne : p.block ≠ i := by rintro rfl; rcases hp with hp | hp <;> omega
    have : (w'.setCell p v).heap[i]? = w'.heap[i]? := by simp [World.setCell, Array.getElem?_modify, hne]
    rw [this]; exact h.block i hi h1 h2⟩
theorem only_f (h : Only cb fb w w') (o : Nat) (v : Value) : Only cb fb w (w'.setCell ⟨fb, o, none⟩ v) := only_set h (.inr rfl) v
theorem only_c (h : Only cb fb w w') (o : Nat) (v : Value) : Only cb fb w (w'.setCell ⟨cb, o, none⟩ v) := only_set h (.inl rfl) v
theorem only_below {B : Nat} {w0 : World} (h : Below B w0 w) (k : Only cb fb w w') (h1 : B ≤ cb) (h2 : B ≤ fb) (hB : B ≤ w0.heap.size) : Below B w0 w' :=
  h.trans ⟨k.os, k.tape, k.output, k.size, fun i hi => by
    rcases Nat.lt_or_ge i w.heap.size with hl | hg
    · exact k.block i hl (by omega) (by omega)
    · have := h.size; omega⟩
end

set_option maxHeartbeats 400000 in
theorem at57_in (cb fb : Nat) (fr : List Fr) (hand i : Nat) (w : World) (h : CA w cb fb fr hand) (hi : i < fr.length) :
    Calls Try.prog 57 #[.pointer (some ⟨cb, 0, none⟩), .int .i64 i] w fun e w' => e = .returned (.pointer (some ⟨fb, i * 3, none⟩)) ∧ w' = w := by
  obtain ⟨hc, hf, hl⟩ := h
  have x0 := blk_cell hc 0
  simp at x0
  have q0 : (0 : Int) ≤ (i : Int) := Int.natCast_nonneg _
  have q1 : (i : Int) < (fr.length : Int) := by omega
  clear hc hf
  go_enter Try.func57, Try.ntmps57
  go_wp2_with fail
  go_ret
  exact ⟨rfl, rfl⟩

set_option maxHeartbeats 400000 in
theorem at57_out (cb fb : Nat) (fr : List Fr) (hand : Nat) (i : Int) (w : World) (h : CA w cb fb fr hand) (hi : i < 0 ∨ (fr.length : Int) ≤ i) :
    Calls Try.prog 57 #[.pointer (some ⟨cb, 0, none⟩), .int .i64 i] w fun e w' => e = .returned (.pointer none) ∧ w' = w := by
  obtain ⟨hc, hf, hl⟩ := h
  have x0 := blk_cell hc 0
  simp at x0
  clear hc hf
  by_cases h0 : i < 0
  · clear hi
    go_enter Try.func57, Try.ntmps57
    go_wp2_with fail
    go_ret
    exact ⟨rfl, rfl⟩
  · have h1 : (fr.length : Int) ≤ i := by omega
    clear hi
    go_enter Try.func57, Try.ntmps57
    go_wp2_with fail
    go_ret
    exact ⟨rfl, rfl⟩

section
variable {w w' : World} {cb fb : Nat} {fr : List Fr} {hand i : Nat} {f : Fr}
theorem blk_ne {w : World} {g g' : Nat} {t t' : TypeId} {cs cs' : Array Value} (h : Blk w g t cs) (h' : Blk w g' t' cs') (hne : t ≠ t') : g ≠ g' := by
  rintro rfl
  unfold Blk at h h'
  rw [h] at h'
  injection h' with h'
  injection h' with _ ht
  exact hne ht
theorem ca_ne (h : CA w cb fb fr hand) : cb ≠ fb := by
  obtain ⟨hc, ⟨cs, hb, _⟩, _⟩ := h
  exact blk_ne hc hb (by decide)
theorem ca_cells (h : CA w cb fb fr hand) (hf : fr[i]? = some f) :
    w.cell? ⟨fb, i * 3, none⟩ = some (.int .i64 f.key) ∧ w.cell? ⟨fb, i * 3 + 1, none⟩ = some (.bool f.mark) ∧ w.cell? ⟨fb, i * 3 + 2, none⟩ = some (.int .i64 f.pins) ∧
      w.frozen? ⟨fb, i * 3, none⟩ = false ∧ w.frozen? ⟨fb, i * 3 + 1, none⟩ = false ∧ w.frozen? ⟨fb, i * 3 + 2, none⟩ = false := by
  obtain ⟨_, ⟨cs, hb, hx⟩, _⟩ := h
  obtain ⟨h0, h1, h2⟩ := hx i f hf
  exact ⟨(blk_cell hb _).trans h0, (blk_cell hb _).trans h1, (blk_cell hb _).trans h2, blk_froz hb _, blk_froz hb _, blk_froz hb _⟩
theorem ca_slice (h : CA w cb fb fr hand) : w.cell? ⟨cb, 0, none⟩ = some (.slice (some ⟨fb, 0, none⟩) fr.length fr.length) ∧ w.cell? ⟨cb, 1, none⟩ = some (.int .i64 hand) ∧ w.frozen? ⟨cb, 1, none⟩ = false := by
  obtain ⟨hc, _, _⟩ := h
  exact ⟨blk_cell hc 0, blk_cell hc 1, blk_froz hc 1⟩
theorem ca_keep (h : CA w cb fb fr hand) (hb : Below w.heap.size w w') : CA w' cb fb fr hand := by
  obtain ⟨hc, ⟨cs, hf, hx⟩, hl⟩ := h
  exact ⟨blk_keep hc hb, ⟨cs, blk_keep hf hb, hx⟩, hl⟩
theorem ca_far (h : CA w cb fb fr hand) {p : Addr} (h1 : p.block ≠ cb) (h2 : p.block ≠ fb) (v : Value) : CA (w.setCell p v) cb fb fr hand := by
  obtain ⟨hc, ⟨cs, hf, hx⟩, hl⟩ := h
  exact ⟨blk_far hc h1 v, ⟨cs, blk_far hf h2 v, hx⟩, hl⟩
theorem ca_hand (h : CA w cb fb fr hand) (k : Nat) : CA (w.setCell ⟨cb, 1, none⟩ (.int .i64 k)) cb fb fr k := by
  have hne := ca_ne h
  obtain ⟨hc, ⟨cs, hf, hx⟩, hl⟩ := h
  exact ⟨blk_set hc 1 _, ⟨cs, blk_far hf (by simpa using hne) _, hx⟩, hl⟩
theorem fa_set (h : CA w cb fb fr hand) (hf : fr[i]? = some f) (j : Nat) (hj : j < 3) (v : Value) (g : Fr)
    (h0 : (if j = 0 then v else .int .i64 f.key) = .int .i64 g.key) (h1 : (if j = 1 then v else .bool f.mark) = .bool g.mark) (h2 : (if j = 2 then v else .int .i64 f.pins) = .int .i64 g.pins) :
    CA (w.setCell ⟨fb, i * 3 + j, none⟩ v) cb fb (fr.set i g) hand := by
  have hne := ca_ne h
  obtain ⟨hc, ⟨cs, hb, hx⟩, hl⟩ := h
  refine ⟨by rw [List.length_set]; exact blk_far hc (by simpa using Ne.symm hne) _, ⟨_, blk_set hb _ v, fun k q hq => ?_⟩, by simpa using hl⟩
  obtain ⟨c0, c1, c2⟩ := hx i f hf
  have hs0 : i * 3 < cs.size := (Array.getElem?_eq_some_iff.1 c0).1
  have hs1 : i * 3 + 1 < cs.size := (Array.getElem?_eq_some_iff.1 c1).1
  have hs2 : i * 3 + 2 < cs.size := (Array.getElem?_eq_some_iff.1 c2).1
  have hsj : i * 3 + j < cs.size := by
    rcases (by omega : j = 0 ∨ j = 1 ∨ j = 2) with rfl | rfl | rfl <;> omega
  rw [List.getElem?_set] at hq
  by_cases hik : i = k
  · subst hik
    rw [if_pos rfl] at hq
    have hil : i < fr.length := (List.getElem?_eq_some_iff.1 hf).1
    rw [if_pos hil] at hq
    injection hq with hq
    subst hq
    simp only [Array.getElem?_setIfInBounds]
    refine ⟨?_, ?_, ?_⟩
    · by_cases e : j = 0
      · subst e; simpa [hs0] using h0
      · rw [if_neg (by omega), c0, ← h0, if_neg e]
    · by_cases e : j = 1
      · subst e; simpa [hs1] using h1
      · rw [if_neg (by omega), c1, ← h1, if_neg e]
    · by_cases e : j = 2
      · subst e; simpa [hs2] using h2
      · rw [if_neg (by omega), c2, ← h2, if_neg e]
  · rw [if_neg hik] at hq
    obtain ⟨d0, d1, d2⟩ := hx k q hq
    simp only [Array.getElem?_setIfInBounds]
    rw [if_neg (by omega), if_neg (by omega), if_neg (by omega)]
    exact ⟨d0, d1, d2⟩
theorem ca_setKey (h : CA w cb fb fr hand) (hf : fr[i]? = some f) (k : Int) : CA (w.setCell ⟨fb, i * 3, none⟩ (.int .i64 k)) cb fb (fr.set i { f with key := k }) hand :=
  fa_set h hf 0 (by omega) _ _ rfl rfl rfl
theorem ca_setMark (h : CA w cb fb fr hand) (hf : fr[i]? = some f) (b : Bool) : CA (w.setCell ⟨fb, i * 3 + 1, none⟩ (.bool b)) cb fb (fr.set i { f with mark := b }) hand :=
  fa_set h hf 1 (by omega) _ _ rfl rfl rfl
theorem ca_setPins (h : CA w cb fb fr hand) (hf : fr[i]? = some f) (k : Int) : CA (w.setCell ⟨fb, i * 3 + 2, none⟩ (.int .i64 k)) cb fb (fr.set i { f with pins := k }) hand :=
  fa_set h hf 2 (by omega) _ _ rfl rfl rfl
end

theorem two_sets {w : World} {cb fb : Nat} {fr : List Fr} {hand i : Nat} {f : Fr} (h : CA w cb fb fr hand) (hf : fr[i]? = some f) (k : Int) (b : Bool) :
    CA ((w.setCell ⟨fb, i * 3, none⟩ (.int .i64 k)).setCell ⟨fb, i * 3 + 1, none⟩ (.bool b)) cb fb (fr.set i { f with key := k, mark := b }) hand := by
  have h1 := ca_setKey h hf k
  have hl : i < fr.length := (List.getElem?_eq_some_iff.1 hf).1
  have h2 := ca_setMark h1 (f := { f with key := k }) (i := i) (by rw [List.getElem?_set_self hl]) b
  rw [List.set_set] at h2
  exact h2

def frAt (fr : List Fr) (i : Int) : Option Fr := if i < 0 then none else fr[i.toNat]?
theorem frAt_some {fr : List Fr} {i : Int} {f : Fr} (h : frAt fr i = some f) : ∃ k : Nat, i = k ∧ k < fr.length ∧ fr[k]? = some f := by
  unfold frAt at h
  split at h
  · cases h
  · exact ⟨i.toNat, by omega, (List.getElem?_eq_some_iff.1 h).1, h⟩
theorem frAt_none {fr : List Fr} {i : Int} (h : frAt fr i = none) : i < 0 ∨ (fr.length : Int) ≤ i := by
  unfold frAt at h
  split at h
  · exact .inl ‹_›
  · rw [List.getElem?_eq_none_iff] at h
    omega

def keyR (fr : List Fr) (i : Int) : Int × Bool := match frAt fr i with
  | some f => if f.key = -1 then (0, false) else (f.key, true)
  | none => (0, false)
def pinsR (fr : List Fr) (i : Int) : Int := match frAt fr i with
  | some f => f.pins
  | none => 0

set_option maxHeartbeats 400000 in
theorem key41 (cb fb : Nat) (fr : List Fr) (hand : Nat) (i : Int) (w : World) (h : CA w cb fb fr hand) :
    Calls Try.prog 41 #[.pointer (some ⟨cb, 0, none⟩), .int .i64 i] w fun e w' => e = .returned (.tuple #[.int .i64 (keyR fr i).1, .bool (keyR fr i).2]) ∧ w' = w := by
  have H := Lib.hid h
  cases hq : frAt fr i with
  | none =>
    have ho := frAt_none hq
    have hr : keyR fr i = (0, false) := by simp only [keyR, hq]
    rw [hr]
    clear h hq hr
    have HO := Lib.hid ho
    clear ho
    go_enter Try.func41, Try.ntmps41
    go_wp2_with fail
    refine (at57_out cb fb fr hand i _ H.out HO.out).mono ?_
    rintro e w1 ⟨rfl, rfl⟩
    go_wp2_with fail
    go_ret2
    exact ⟨rfl, rfl⟩
  | some f =>
    obtain ⟨k, rfl, hk, hf⟩ := frAt_some hq
    obtain ⟨c0, c1, c2, _, _, _⟩ := ca_cells h hf
    by_cases hm : f.key = -1
    · have hr : keyR fr k = (0, false) := by simp only [keyR, hq, hm, if_true]
      rw [hr]
      have e1 : (f.key == -1) = true := by simp [hm]
      clear h hq hr hf hm c1 c2
      go_enter Try.func41, Try.ntmps41
      go_wp2_with fail
      refine (at57_in cb fb fr hand k _ H.out hk).mono ?_
      rintro e w1 ⟨rfl, rfl⟩
      go_wp2_with fail
      go_ret2
      exact ⟨rfl, rfl⟩
    · have hr : keyR fr k = (f.key, true) := by simp only [keyR, hq, if_neg hm]
      rw [hr]
      have e1 : (f.key == -1) = false := by simp [hm]
      clear h hq hr hf hm c1 c2
      go_enter Try.func41, Try.ntmps41
      go_wp2_with fail
      refine (at57_in cb fb fr hand k _ H.out hk).mono ?_
      rintro e w1 ⟨rfl, rfl⟩
      go_wp2_with fail
      go_ret2
      exact ⟨rfl, rfl⟩

set_option maxHeartbeats 400000 in
theorem pins39 (cb fb : Nat) (fr : List Fr) (hand : Nat) (i : Int) (w : World) (h : CA w cb fb fr hand) :
    Calls Try.prog 39 #[.pointer (some ⟨cb, 0, none⟩), .int .i64 i] w fun e w' => e = .returned (.int .i64 (pinsR fr i)) ∧ w' = w := by
  have H := Lib.hid h
  cases hq : frAt fr i with
  | none =>
    have ho := frAt_none hq
    have hr : pinsR fr i = 0 := by simp only [pinsR, hq]
    rw [hr]
    clear h hq hr
    have HO := Lib.hid ho
    clear ho
    go_enter Try.func39, Try.ntmps39
    go_wp2_with fail
    refine (at57_out cb fb fr hand i _ H.out HO.out).mono ?_
    rintro e w1 ⟨rfl, rfl⟩
    go_wp2_with fail
    go_ret
    exact ⟨rfl, rfl⟩
  | some f =>
    obtain ⟨k, rfl, hk, hf⟩ := frAt_some hq
    obtain ⟨c0, c1, c2, _, _, _⟩ := ca_cells h hf
    have hr : pinsR fr k = f.pins := by simp only [pinsR, hq]
    rw [hr]
    clear h hq hr hf c0 c1
    go_enter Try.func39, Try.ntmps39
    go_wp2_with fail
    refine (at57_in cb fb fr hand k _ H.out hk).mono ?_
    rintro e w1 ⟨rfl, rfl⟩
    go_wp2_with fail
    go_ret
    exact ⟨rfl, rfl⟩

def pinR (fr : List Fr) (i : Int) : Bool × List Fr := match frAt fr i with
  | some f => if ¬ f.key = -1 then (true, fr.set i.toNat { f with pins := f.pins + 1 }) else (false, fr)
  | none => (false, fr)

set_option maxHeartbeats 400000 in
theorem pin37 (cb fb : Nat) (fr : List Fr) (hand : Nat) (i : Int) (w : World) (h : CA w cb fb fr hand) (hp : ∀ f ∈ fr, 0 ≤ f.pins ∧ f.pins ≤ 1000000) :
    Calls Try.prog 37 #[.pointer (some ⟨cb, 0, none⟩), .int .i64 i] w fun e w' => e = .returned (.bool (pinR fr i).1) ∧ CA w' cb fb (pinR fr i).2 hand ∧ Only cb fb w w' := by
  have H := Lib.hid h
  cases hq : frAt fr i with
  | none =>
    have ho := frAt_none hq
    have hr : pinR fr i = (false, fr) := by simp only [pinR, hq]
    rw [hr]
    clear h hq hr
    have HO := Lib.hid ho
    clear ho
    go_enter Try.func37, Try.ntmps37
    go_wp2_with fail
    refine (at57_out cb fb fr hand i _ H.out HO.out).mono ?_
    rintro e w1 ⟨rfl, rfl⟩
    go_wp2_with fail
    go_ret
    exact ⟨rfl, H.out, only_refl _ _ _⟩
  | some f =>
    obtain ⟨k, rfl, hk, hf⟩ := frAt_some hq
    obtain ⟨c0, c1, c2, z0, z1, z2⟩ := ca_cells h hf
    have HF := Lib.hid hf
    obtain ⟨p0, p1⟩ := hp f (List.mem_of_getElem? hf)
    by_cases hm : ¬ f.key = -1
    · have hr : pinR fr k = (true, fr.set k { f with pins := f.pins + 1 }) := by simp only [pinR, hq, hm, if_true, Int.toNat_natCast]; rfl
      rw [hr]
      have e1 : (f.key == -1) = false := by simp [hm]
      clear h hq hr hf hm
      go_enter Try.func37, Try.ntmps37
      go_wp2_with fail
      refine (at57_in cb fb fr hand k _ H.out hk).mono ?_
      rintro e w1 ⟨rfl, rfl⟩
      go_wp2_with fail
      go_ret
      exact ⟨rfl, ca_setPins H.out HF.out _, only_f (only_refl _ _ _) _ _⟩
    · have hr : pinR fr k = (false, fr) := by simp only [pinR, hq, if_neg hm]
      rw [hr]
      have e1 : (f.key == -1) = true := by simpa using hm
      clear h hq hr hf hm
      go_enter Try.func37, Try.ntmps37
      go_wp2_with fail
      refine (at57_in cb fb fr hand k _ H.out hk).mono ?_
      rintro e w1 ⟨rfl, rfl⟩
      go_wp2_with fail
      go_ret
      exact ⟨rfl, H.out, only_refl _ _ _⟩

def unpinR (fr : List Fr) (i : Int) : Bool × List Fr := match frAt fr i with
  | some f => if ¬ f.pins = 0 then (true, fr.set i.toNat { f with pins := f.pins - 1 }) else (false, fr)
  | none => (false, fr)

set_option maxHeartbeats 400000 in
theorem unpin38 (cb fb : Nat) (fr : List Fr) (hand : Nat) (i : Int) (w : World) (h : CA w cb fb fr hand) (hp : ∀ f ∈ fr, 0 ≤ f.pins ∧ f.pins ≤ 1000000) :
    Calls Try.prog 38 #[.pointer (some ⟨cb, 0, none⟩), .int .i64 i] w fun e w' => e = .returned (.bool (unpinR fr i).1) ∧ CA w' cb fb (unpinR fr i).2 hand ∧ Only cb fb w w' := by
  have H := Lib.hid h
  cases hq : frAt fr i with
  | none =>
    have ho := frAt_none hq
    have hr : unpinR fr i = (false, fr) := by simp only [unpinR, hq]
    rw [hr]
    clear h hq hr
    have HO := Lib.hid ho
    clear ho
    go_enter Try.func38, Try.ntmps38
    go_wp2_with fail
    refine (at57_out cb fb fr hand i _ H.out HO.out).mono ?_
    rintro e w1 ⟨rfl, rfl⟩
    go_wp2_with fail
    go_ret
    exact ⟨rfl, H.out, only_refl _ _ _⟩
  | some f =>
    obtain ⟨k, rfl, hk, hf⟩ := frAt_some hq
    obtain ⟨c0, c1, c2, z0, z1, z2⟩ := ca_cells h hf
    have HF := Lib.hid hf
    obtain ⟨p0, p1⟩ := hp f (List.mem_of_getElem? hf)
    by_cases hm : ¬ f.pins = 0
    · have hr : unpinR fr k = (true, fr.set k { f with pins := f.pins - 1 }) := by simp only [unpinR, hq, hm, if_true, Int.toNat_natCast]; rfl
      rw [hr]
      have e1 : (f.pins == 0) = false := by simp [hm]
      clear h hq hr hf hm
      go_enter Try.func38, Try.ntmps38
      go_wp2_with fail
      refine (at57_in cb fb fr hand k _ H.out hk).mono ?_
      rintro e w1 ⟨rfl, rfl⟩
      go_wp2_with fail
      go_ret
      exact ⟨rfl, ca_setPins H.out HF.out _, only_f (only_refl _ _ _) _ _⟩
    · have hr : unpinR fr k = (false, fr) := by simp only [unpinR, hq, if_neg hm]
      rw [hr]
      have e1 : (f.pins == 0) = true := by simpa using hm
      clear h hq hr hf hm
      go_enter Try.func38, Try.ntmps38
      go_wp2_with fail
      refine (at57_in cb fb fr hand k _ H.out hk).mono ?_
      rintro e w1 ⟨rfl, rfl⟩
      go_wp2_with fail
      go_ret
      exact ⟨rfl, H.out, only_refl _ _ _⟩

def dropR (fr : List Fr) (i : Int) : Bool × List Fr := match frAt fr i with
  | some f => if ¬ 0 < f.pins then (true, fr.set i.toNat { f with key := -1, mark := false }) else (false, fr)
  | none => (false, fr)

set_option maxHeartbeats 400000 in
theorem drop40 (cb fb : Nat) (fr : List Fr) (hand : Nat) (i : Int) (w : World) (h : CA w cb fb fr hand) :
    Calls Try.prog 40 #[.pointer (some ⟨cb, 0, none⟩), .int .i64 i] w fun e w' => e = .returned (.bool (dropR fr i).1) ∧ CA w' cb fb (dropR fr i).2 hand ∧ Only cb fb w w' := by
  have H := Lib.hid h
  cases hq : frAt fr i with
  | none =>
    have ho := frAt_none hq
    have hr : dropR fr i = (false, fr) := by simp only [dropR, hq]
    rw [hr]
    clear h hq hr
    have HO := Lib.hid ho
    clear ho
    go_enter Try.func40, Try.ntmps40
    go_wp2_with fail
    refine (at57_out cb fb fr hand i _ H.out HO.out).mono ?_
    rintro e w1 ⟨rfl, rfl⟩
    go_wp2_with fail
    go_ret
    exact ⟨rfl, H.out, only_refl _ _ _⟩
  | some f =>
    obtain ⟨k, rfl, hk, hf⟩ := frAt_some hq
    obtain ⟨c0, c1, c2, z0, z1, z2⟩ := ca_cells h hf
    have HF := Lib.hid hf
    by_cases hm : ¬ 0 < f.pins
    · have hr : dropR fr k = (true, fr.set k { f with key := -1, mark := false }) := by simp only [dropR, hq, hm, if_true, Int.toNat_natCast]; rfl
      rw [hr]
      have e1 : ¬ 0 < f.pins := hm
      clear h hq hr hf hm
      go_enter Try.func40, Try.ntmps40
      go_wp2_with fail
      refine (at57_in cb fb fr hand k _ H.out hk).mono ?_
      rintro e w1 ⟨rfl, rfl⟩
      go_wp2_with fail
      go_ret
      exact ⟨rfl, two_sets H.out HF.out _ _, only_f (only_f (only_refl _ _ _) _ _) _ _⟩
    · have hr : dropR fr k = (false, fr) := by simp only [dropR, hq, if_neg hm]
      rw [hr]
      have e1 : 0 < f.pins := by omega
      clear h hq hr hf hm
      go_enter Try.func40, Try.ntmps40
      go_wp2_with fail
      refine (at57_in cb fb fr hand k _ H.out hk).mono ?_
      rintro e w1 ⟨rfl, rfl⟩
      go_wp2_with fail
      go_ret
      exact ⟨rfl, H.out, only_refl _ _ _⟩

def touchR (fr : List Fr) (i : Int) : Bool × List Fr := match frAt fr i with
  | some f => if ¬ f.key = -1 then (true, fr.set i.toNat { f with mark := true }) else (false, fr)
  | none => (false, fr)

set_option maxHeartbeats 400000 in
theorem touch46 (cb fb : Nat) (fr : List Fr) (hand : Nat) (i : Int) (w : World) (h : CA w cb fb fr hand) :
    Calls Try.prog 46 #[.pointer (some ⟨cb, 0, none⟩), .int .i64 i] w fun e w' => e = .returned (.tuple #[]) ∧ CA w' cb fb (touchR fr i).2 hand ∧ Only cb fb w w' := by
  have H := Lib.hid h
  cases hq : frAt fr i with
  | none =>
    have ho := frAt_none hq
    have hr : touchR fr i = (false, fr) := by simp only [touchR, hq]
    rw [hr]
    clear h hq hr
    have HO := Lib.hid ho
    clear ho
    go_enter Try.func46, Try.ntmps46
    go_wp2_with fail
    refine (at57_out cb fb fr hand i _ H.out HO.out).mono ?_
    rintro e w1 ⟨rfl, rfl⟩
    go_wp2_with fail
    go_end0
    exact ⟨rfl, H.out, only_refl _ _ _⟩
  | some f =>
    obtain ⟨k, rfl, hk, hf⟩ := frAt_some hq
    obtain ⟨c0, c1, c2, z0, z1, z2⟩ := ca_cells h hf
    have HF := Lib.hid hf
    by_cases hm : ¬ f.key = -1
    · have hr : touchR fr k = (true, fr.set k { f with mark := true }) := by simp only [touchR, hq, hm, if_true, Int.toNat_natCast]; rfl
      rw [hr]
      have e1 : (f.key != -1) = true := by simp [hm]
      clear h hq hr hf hm
      go_enter Try.func46, Try.ntmps46
      go_wp2_with fail
      refine (at57_in cb fb fr hand k _ H.out hk).mono ?_
      rintro e w1 ⟨rfl, rfl⟩
      go_wp2_with fail
      go_end0
      exact ⟨rfl, ca_setMark H.out HF.out _, only_f (only_refl _ _ _) _ _⟩
    · have hr : touchR fr k = (false, fr) := by simp only [touchR, hq, if_neg hm]
      rw [hr]
      have e1 : (f.key != -1) = false := by simpa using hm
      clear h hq hr hf hm
      go_enter Try.func46, Try.ntmps46
      go_wp2_with fail
      refine (at57_in cb fb fr hand k _ H.out hk).mono ?_
      rintro e w1 ⟨rfl, rfl⟩
      go_wp2_with fail
      go_end0
      exact ⟨rfl, H.out, only_refl _ _ _⟩


/-- Where a key is: the first frame that has it. -/
def findF (fr : List Fr) (key : Int) : Option Nat := fr.findIdx? fun f => f.key == key
def findR (fr : List Fr) (key : Int) : Option Nat := if key < 0 then none else findF fr key

theorem findF_none {fr : List Fr} {key : Int} (h : ∀ (i : Nat) (f : Fr), fr[i]? = some f → ¬ f.key = key) : findF fr key = none := by
  unfold findF
  rw [List.findIdx?_eq_none_iff]
  intro f hf
  obtain ⟨i, hi⟩ := List.mem_iff_getElem?.1 hf
  simpa using h i f hi
theorem findF_some {fr : List Fr} {key : Int} {k : Nat} {f : Fr} (hk : fr[k]? = some f) (hf : f.key = key) (h : ∀ (i : Nat) (g : Fr), i < k → fr[i]? = some g → ¬ g.key = key) : findF fr key = some k := by
  unfold findF
  have hl : k < fr.length := (List.getElem?_eq_some_iff.1 hk).1
  rw [List.findIdx?_eq_some_iff_getElem]
  refine ⟨hl, ?_, fun j hj => ?_⟩
  · have : fr[k] = f := by rw [List.getElem?_eq_getElem hl] at hk; exact Option.some.inj hk
    simp [this, hf]
  · have := h j fr[j] hj (List.getElem?_eq_getElem (by omega))
    simpa using this

/-- The walk through the frames, that looks for a key. -/
theorem three_blk {w : World} {t : TypeId} {a b c : Value} : Blk (w.alloc (.cells #[a, b, c] t)) w.heap.size t #[a, b, c] := blk_new _ _ _

set_option maxHeartbeats 1000000 in
theorem find35 (cb fb : Nat) (fr : List Fr) (hand : Nat) (key : Int) (w : World) (h : CA w cb fb fr hand) :
    Calls Try.prog 35 #[.pointer (some ⟨cb, 0, none⟩), .int .i64 key] w fun e w' => e = .returned (.tuple #[.int .i64 ((findR fr key).getD 0 : Nat), .bool (findR fr key).isSome]) ∧ Below w.heap.size w w' := by
  by_cases hk : key < 0
  · have hr : findR fr key = none := by simp only [findR, if_pos hk]
    rw [hr]
    clear hr h
    go_enter Try.func35, Try.ntmps35
    go_wp2_with fail
    go_ret2
    exact ⟨rfl, Below.refl _ _⟩
  · have hr : findR fr key = findF fr key := by simp only [findR, if_neg hk]
    rw [hr]
    clear hr
    have H := Lib.hid h
    obtain ⟨x0, _, _⟩ := ca_slice h
    have hl := h.2.2
    clear h
    go_enter Try.func35, Try.ntmps35
    go_wp2_with fail
    go_loopg [19] fr.length (fun gk s19 wr => ∃ k : Nat, k ≤ fr.length ∧ gk = fr.length - k ∧ s19 = .int .i64 k ∧ (∀ (i : Nat) (g : Fr), i < k → fr[i]? = some g → ¬ g.key = key) ∧ Below w.heap.size w wr)
    case atStart => exact ⟨0, Nat.zero_le _, rfl, rfl, fun i g hi => absurd hi (by omega), Below.refl _ _⟩
    case round =>
      obtain ⟨k, hkl, hgk, rfl, hpre, HB⟩ := hrel
      have HP := Lib.hid hpre
      clear hpre x0
      by_cases hlt : k < fr.length
      · obtain ⟨f, hf⟩ : ∃ f, fr[k]? = some f := ⟨_, List.getElem?_eq_getElem hlt⟩
        have HC := ca_keep H.out HB
        obtain ⟨c0, c1, c2, _, _, _⟩ := ca_cells HC hf
        have HF := Lib.hid hf
        have q0 : (0 : Int) ≤ (k : Int) := Int.natCast_nonneg _
        have q1 : (k : Int) < (fr.length : Int) := by omega
        clear hf HC
        by_cases he : f.key = key
        · have e1 : (f.key == key) = true := by simp [he]
          have hs := findF_some HF.out he HP.out
          have HS := Lib.hid hs
          clear he hs
          go_wp2_with fail
          go_ret2
          exact ⟨by rw [HS.out]; rfl, bel_new HB _⟩
        · have e1 : (f.key == key) = false := by simp [he]
          have HE := Lib.hid he
          clear he
          go_wp2_with fail
          go_roundg (fr.length - (k + 1))
          case measure => omega
          case rel =>
            refine ⟨k + 1, by omega, rfl, by go_num, fun i g hi hg => ?_, bel_new HB _⟩
            by_cases hik : i < k
            · exact HP.out i g hik hg
            · obtain rfl : i = k := by omega
              rw [HF.out] at hg
              injection hg with hg
              subst hg
              exact HE.out
      · have hkn : k = fr.length := by omega
        have hs : findF fr key = none := findF_none fun i g hg => HP.out i g (by have := (List.getElem?_eq_some_iff.1 hg).1; omega) hg
        have HS := Lib.hid hs
        clear hs hkn
        go_wp2_with fail
        go_ret2
        exact ⟨by rw [HS.out]; rfl, HB⟩

set_option maxHeartbeats 1000000 in
theorem empty56 (cb fb : Nat) (fr : List Fr) (hand : Nat) (w : World) (h : CA w cb fb fr hand) :
    Calls Try.prog 56 #[.pointer (some ⟨cb, 0, none⟩)] w fun e w' => e = .returned (.tuple #[.int .i64 ((findF fr (-1)).getD 0 : Nat), .bool (findF fr (-1)).isSome]) ∧ Below w.heap.size w w' := by
  have H := Lib.hid h
  obtain ⟨x0, _, _⟩ := ca_slice h
  have hl := h.2.2
  clear h
  go_enter Try.func56, Try.ntmps56
  go_wp2_with fail
  go_loopg [11] fr.length (fun gk s11 wr => ∃ k : Nat, k ≤ fr.length ∧ gk = fr.length - k ∧ s11 = .int .i64 k ∧ (∀ (i : Nat) (g : Fr), i < k → fr[i]? = some g → ¬ g.key = -1) ∧ Below w.heap.size w wr)
  case atStart => exact ⟨0, Nat.zero_le _, rfl, rfl, fun i g hi => absurd hi (by omega), Below.refl _ _⟩
  case round =>
    obtain ⟨k, hkl, hgk, rfl, hpre, HB⟩ := hrel
    have HP := Lib.hid hpre
    clear hpre x0
    by_cases hlt : k < fr.length
    · obtain ⟨f, hf⟩ : ∃ f, fr[k]? = some f := ⟨_, List.getElem?_eq_getElem hlt⟩
      have HC := ca_keep H.out HB
      obtain ⟨c0, c1, c2, _, _, _⟩ := ca_cells HC hf
      have HF := Lib.hid hf
      have q0 : (0 : Int) ≤ (k : Int) := Int.natCast_nonneg _
      have q1 : (k : Int) < (fr.length : Int) := by omega
      clear hf HC
      by_cases he : f.key = -1
      · have e1 : (f.key == -1) = true := by simp [he]
        have hs := findF_some HF.out he HP.out
        have HS := Lib.hid hs
        clear he hs
        go_wp2_with fail
        go_ret2
        exact ⟨by rw [HS.out]; rfl, bel_new HB _⟩
      · have e1 : (f.key == -1) = false := by simp [he]
        have HE := Lib.hid he
        clear he
        go_wp2_with fail
        go_roundg (fr.length - (k + 1))
        case measure => omega
        case rel =>
          refine ⟨k + 1, by omega, rfl, by go_num, fun i g hi hg => ?_, bel_new HB _⟩
          by_cases hik : i < k
          · exact HP.out i g hik hg
          · obtain rfl : i = k := by omega
            rw [HF.out] at hg
            injection hg with hg
            subst hg
            exact HE.out
    · have hkn : k = fr.length := by omega
      have hs : findF fr (-1) = none := findF_none fun i g hg => HP.out i g (by have := (List.getElem?_eq_some_iff.1 hg).1; omega) hg
      have HS := Lib.hid hs
      clear hs hkn
      go_wp2_with fail
      go_ret2
      exact ⟨by rw [HS.out]; rfl, HB⟩

def pinnedN (fr : List Fr) : Nat := (fr.filter fun f => decide (0 < f.pins)).length
theorem pinnedN_snoc (fr : List Fr) (f : Fr) : pinnedN (fr ++ [f]) = pinnedN fr + (if 0 < f.pins then 1 else 0) := by
  unfold pinnedN
  rw [List.filter_append, List.length_append]
  by_cases h : 0 < f.pins <;> simp [h]
theorem take_snocF (xs : List Fr) (k : Nat) (v : Fr) (h : xs[k]? = some v) : xs.take (k + 1) = xs.take k ++ [v] := by
  have hk : k < xs.length := (List.getElem?_eq_some_iff.1 h).1
  rw [List.take_succ_eq_append_getElem hk]
  rw [List.getElem?_eq_getElem hk] at h
  simp at h
  rw [h]

set_option maxHeartbeats 1000000 in
theorem pinned51 (cb fb : Nat) (fr : List Fr) (hand : Nat) (w : World) (h : CA w cb fb fr hand) :
    Calls Try.prog 51 #[.pointer (some ⟨cb, 0, none⟩)] w fun e w' => e = .returned (.int .i64 (pinnedN fr : Int)) ∧ Below w.heap.size w w' := by
  have H := Lib.hid h
  obtain ⟨x0, _, _⟩ := ca_slice h
  have hl := h.2.2
  clear h
  go_enter Try.func51, Try.ntmps51
  go_wp2_with fail
  go_loopg [3, 13] fr.length (fun gk s3 s13 wr => ∃ k : Nat, k ≤ fr.length ∧ gk = fr.length - k ∧ s13 = .int .i64 k ∧ s3 = .int .i64 (pinnedN (fr.take k) : Int) ∧ Below w.heap.size w wr)
  case atStart => exact ⟨0, Nat.zero_le _, rfl, rfl, rfl, Below.refl _ _⟩
  case round =>
    obtain ⟨k, hkl, hgk, rfl, rfl, HB⟩ := hrel
    clear x0
    have hpn : pinnedN (fr.take k) ≤ 16 := Nat.le_trans (List.length_filter_le _ _) (by simp; omega)
    by_cases hlt : k < fr.length
    · obtain ⟨f, hf⟩ : ∃ f, fr[k]? = some f := ⟨_, List.getElem?_eq_getElem hlt⟩
      have HC := ca_keep H.out HB
      obtain ⟨c0, c1, c2, _, _, _⟩ := ca_cells HC hf
      have hs := pinnedN_snoc (fr.take k) f
      rw [← take_snocF fr k f hf] at hs
      have HS := Lib.hid hs
      have q0 : (0 : Int) ≤ (k : Int) := Int.natCast_nonneg _
      have q1 : (k : Int) < (fr.length : Int) := by omega
      clear hf HC hs
      generalize pinnedN (fr.take k) = N at *
      by_cases he : 0 < f.pins
      · go_wp2_with fail
        go_roundg (fr.length - (k + 1))
        case measure => omega
        case rel => exact ⟨k + 1, by omega, rfl, by go_num, by rw [HS.out, if_pos he]; go_num, bel_new HB _⟩
      · go_wp2_with fail
        go_roundg (fr.length - (k + 1))
        case measure => omega
        case rel => exact ⟨k + 1, by omega, rfl, by go_num, by rw [HS.out, if_neg (by omega)]; go_num, bel_new HB _⟩
    · have hkn : k = fr.length := by omega
      have HK := Lib.hid hkn
      clear hkn
      go_wp2_with fail
      go_ret
      exact ⟨ret_int (by rw [HK.out, List.take_length]), HB⟩

def mayPut (fr : List Fr) (i key : Int) (f : Fr) : Prop := 0 ≤ key ∧ (∀ j, findF fr key = some j → (j : Int) = i) ∧ ¬ 0 < f.pins
instance (fr : List Fr) (i key : Int) (f : Fr) : Decidable (mayPut fr i key f) := by
  unfold mayPut
  cases h : findF fr key with
  | none => exact decidable_of_iff (0 ≤ key ∧ ¬ 0 < f.pins) ⟨fun ⟨a, b⟩ => ⟨a, fun _ e => (by cases e), b⟩, fun ⟨a, _, b⟩ => ⟨a, b⟩⟩
  | some j => exact decidable_of_iff (0 ≤ key ∧ (j : Int) = i ∧ ¬ 0 < f.pins) ⟨fun ⟨a, c, b⟩ => ⟨a, fun k e => (by cases e; exact c), b⟩, fun ⟨a, c, b⟩ => ⟨a, c j rfl, b⟩⟩
def putR (fr : List Fr) (i key : Int) : Bool × List Fr := match frAt fr i with
  | some f => if mayPut fr i key f then (true, fr.set i.toNat { f with key := key, mark := true }) else (false, fr)
  | none => (false, fr)

set_option maxHeartbeats 1000000 in
theorem put36 (cb fb : Nat) (fr : List Fr) (hand : Nat) (i key : Int) (w : World) (h : CA w cb fb fr hand) :
    Calls Try.prog 36 #[.pointer (some ⟨cb, 0, none⟩), .int .i64 i, .int .i64 key] w fun e w' => e = .returned (.bool (putR fr i key).1) ∧ CA w' cb fb (putR fr i key).2 hand ∧ Only cb fb w w' := by
  have H := Lib.hid h
  cases hq : frAt fr i with
  | none =>
    have ho := frAt_none hq
    have hr : putR fr i key = (false, fr) := by simp only [putR, hq]
    rw [hr]
    clear h hq hr
    have HO := Lib.hid ho
    clear ho
    cases hfind : findR fr key with
    | none =>
      have HF := Lib.hid hfind
      clear hfind
      go_enter Try.func36, Try.ntmps36
      go_wp2_with fail
      refine (at57_out cb fb fr hand i _ H.out HO.out).mono ?_
      rintro e w1 ⟨rfl, rfl⟩
      go_wp2_with fail
      refine (find35 cb fb fr hand key _ H.out).mono ?_
      rintro e w2 ⟨rfl, hb⟩
      rw [HF.out]
      go_wp2_with fail
      go_ret
      exact ⟨rfl, ca_keep H.out hb, only_of_below hb _ _⟩
    | some j =>
      have HF := Lib.hid hfind
      clear hfind
      go_enter Try.func36, Try.ntmps36
      go_wp2_with fail
      refine (at57_out cb fb fr hand i _ H.out HO.out).mono ?_
      rintro e w1 ⟨rfl, rfl⟩
      go_wp2_with fail
      refine (find35 cb fb fr hand key _ H.out).mono ?_
      rintro e w2 ⟨rfl, hb⟩
      rw [HF.out]
      go_wp2_with fail
      go_ret
      exact ⟨rfl, ca_keep H.out hb, only_of_below hb _ _⟩
  | some f =>
    obtain ⟨k, rfl, hk, hf⟩ := frAt_some hq
    have HFF := Lib.hid hf
    by_cases hkey : key < 0
    · have hr : putR fr k key = (false, fr) := by
        simp only [putR, hq]
        rw [if_neg]
        rintro ⟨h1, _⟩
        omega
      rw [hr]
      have hfind : findR fr key = none := by simp only [findR, if_pos hkey]
      have HF := Lib.hid hfind
      clear h hq hr hf hfind
      go_enter Try.func36, Try.ntmps36
      go_wp2_with fail
      refine (at57_in cb fb fr hand k _ H.out hk).mono ?_
      rintro e w1 ⟨rfl, rfl⟩
      go_wp2_with fail
      refine (find35 cb fb fr hand key _ H.out).mono ?_
      rintro e w2 ⟨rfl, hb⟩
      rw [HF.out]
      go_wp2_with fail
      go_ret
      exact ⟨rfl, ca_keep H.out hb, only_of_below hb _ _⟩
    · have hfr : findR fr key = findF fr key := by simp only [findR, if_neg hkey]
      cases hfind : findF fr key with
      | some j =>
        rw [hfind] at hfr
        have HF := Lib.hid hfr
        by_cases hjk : (j : Int) = (k : Int)
        · have e1 : ((j : Int) != (k : Int)) = false := by simpa using hjk
          by_cases hp : 0 < f.pins
          · have hr : putR fr k key = (false, fr) := by
              simp only [putR, hq]
              rw [if_neg]
              rintro ⟨_, _, h3⟩
              exact h3 hp
            rw [hr]
            clear h hq hr hf hfr hfind hjk
            go_enter Try.func36, Try.ntmps36
            go_wp2_with fail
            refine (at57_in cb fb fr hand k _ H.out hk).mono ?_
            rintro e w1 ⟨rfl, rfl⟩
            go_wp2_with fail
            refine (find35 cb fb fr hand key _ H.out).mono ?_
            rintro e w2 ⟨rfl, hb⟩
            rw [HF.out]
            have HC := Lib.hid (ca_keep H.out hb)
            obtain ⟨c0, c1, c2, z0, z1, z2⟩ := ca_cells HC.out HFF.out
            go_wp2_with fail
            go_ret
            exact ⟨rfl, HC.out, only_of_below hb _ _⟩
          · have hr : putR fr k key = (true, fr.set k { f with key := key, mark := true }) := by
              simp only [putR, hq]
              rw [if_pos ⟨by omega, fun j' e => (by rw [hfind] at e; cases e; exact hjk), hp⟩]
              rfl
            rw [hr]
            clear h hq hr hf hfr hfind hjk
            go_enter Try.func36, Try.ntmps36
            go_wp2_with fail
            refine (at57_in cb fb fr hand k _ H.out hk).mono ?_
            rintro e w1 ⟨rfl, rfl⟩
            go_wp2_with fail
            refine (find35 cb fb fr hand key _ H.out).mono ?_
            rintro e w2 ⟨rfl, hb⟩
            rw [HF.out]
            have HC := Lib.hid (ca_keep H.out hb)
            obtain ⟨c0, c1, c2, z0, z1, z2⟩ := ca_cells HC.out HFF.out
            go_wp2_with fail
            go_ret
            exact ⟨rfl, two_sets HC.out HFF.out _ _, only_f (only_f (only_of_below hb _ _) _ _) _ _⟩
        · have e1 : ((j : Int) != (k : Int)) = true := by simpa using hjk
          have hr : putR fr k key = (false, fr) := by
            simp only [putR, hq]
            rw [if_neg]
            rintro ⟨_, h2, _⟩
            exact hjk (h2 j hfind)
          rw [hr]
          clear h hq hr hf hfr hfind hjk
          go_enter Try.func36, Try.ntmps36
          go_wp2_with fail
          refine (at57_in cb fb fr hand k _ H.out hk).mono ?_
          rintro e w1 ⟨rfl, rfl⟩
          go_wp2_with fail
          refine (find35 cb fb fr hand key _ H.out).mono ?_
          rintro e w2 ⟨rfl, hb⟩
          rw [HF.out]
          go_wp2_with fail
          go_ret
          exact ⟨rfl, ca_keep H.out hb, only_of_below hb _ _⟩
      | none =>
        rw [hfind] at hfr
        have HF := Lib.hid hfr
        by_cases hp : 0 < f.pins
        · have hr : putR fr k key = (false, fr) := by
            simp only [putR, hq]
            rw [if_neg]
            rintro ⟨_, _, h3⟩
            exact h3 hp
          rw [hr]
          clear h hq hr hf hfr hfind
          go_enter Try.func36, Try.ntmps36
          go_wp2_with fail
          refine (at57_in cb fb fr hand k _ H.out hk).mono ?_
          rintro e w1 ⟨rfl, rfl⟩
          go_wp2_with fail
          refine (find35 cb fb fr hand key _ H.out).mono ?_
          rintro e w2 ⟨rfl, hb⟩
          rw [HF.out]
          have HC := Lib.hid (ca_keep H.out hb)
          obtain ⟨c0, c1, c2, z0, z1, z2⟩ := ca_cells HC.out HFF.out
          go_wp2_with fail
          go_ret
          exact ⟨rfl, HC.out, only_of_below hb _ _⟩
        · have hr : putR fr k key = (true, fr.set k { f with key := key, mark := true }) := by
            simp only [putR, hq]
            rw [if_pos ⟨by omega, fun j' e => (by rw [hfind] at e; cases e), hp⟩]
            rfl
          rw [hr]
          clear h hq hr hf hfr hfind
          go_enter Try.func36, Try.ntmps36
          go_wp2_with fail
          refine (at57_in cb fb fr hand k _ H.out hk).mono ?_
          rintro e w1 ⟨rfl, rfl⟩
          go_wp2_with fail
          refine (find35 cb fb fr hand key _ H.out).mono ?_
          rintro e w2 ⟨rfl, hb⟩
          rw [HF.out]
          have HC := Lib.hid (ca_keep H.out hb)
          obtain ⟨c0, c1, c2, z0, z1, z2⟩ := ca_cells HC.out HFF.out
          go_wp2_with fail
          go_ret
          exact ⟨rfl, two_sets HC.out HFF.out _ _, only_f (only_f (only_of_below hb _ _) _ _) _ _⟩
end Go.Proofs.Ytecjccjgcdnpnaa
