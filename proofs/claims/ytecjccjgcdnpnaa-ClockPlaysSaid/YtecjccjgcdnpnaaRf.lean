/- What the clocks' methods keep, and that the two clocks do not touch each other. -/
import Derived.Test.YtecjccjgcdnpnaaRe
namespace Go.Proofs.Ytecjccjgcdnpnaa
open Go.RowKit
set_option linter.unusedSimpArgs false
set_option linter.unusedVariables false

section
variable {fr fr' : List Fr} {m m' k : Nat} {f : Fr}
theorem rinv_new (n m : Nat) : RInv (List.replicate n ⟨-1, false, 0⟩) m :=
  ⟨fun i f h => by rw [List.getElem?_replicate] at h; split at h <;> simp at h; rw [← h]; decide,
   fun i f h => by rw [List.getElem?_replicate] at h; split at h <;> simp at h; rw [← h]; simp⟩
theorem rinv_mono (I : RInv fr m) (h : m ≤ m') : RInv fr m' := ⟨I.keys, fun i f hf => by have := I.bd i f hf; omega⟩
theorem rinv_mem (I : RInv fr m) (h : m ≤ 1000000) : ∀ f ∈ fr, 0 ≤ f.pins ∧ f.pins ≤ 1000000 := by
  intro f hf
  obtain ⟨i, hi⟩ := List.mem_iff_getElem?.1 hf
  have := I.bd i f hi
  omega
theorem rinv_set (I : RInv fr m) (h0 : -1 ≤ f.key) (h1 : 0 ≤ f.pins ∧ f.pins ≤ m) : RInv (fr.set k f) m := by
  have hs : ∀ (i : Nat) (g : Fr), (fr.set k f)[i]? = some g → g = f ∨ fr[i]? = some g := by
    intro i g h
    rw [List.getElem?_set] at h
    by_cases e : k = i
    · subst e
      rw [if_pos rfl] at h
      split at h
      · injection h with h; exact .inl h.symm
      · cases h
    · rw [if_neg e] at h
      exact .inr h
  refine ⟨fun i g h => ?_, fun i g h => ?_⟩
  · rcases hs i g h with rfl | h
    · exact h0
    · exact I.keys i g h
  · rcases hs i g h with rfl | h
    · exact h1
    · exact I.bd i g h
theorem rinv_like (I : RInv fr m) (hk : keysOf fr' = keysOf fr) (hp : pinsOf fr' = pinsOf fr) : RInv fr' m :=
  ⟨fun i f h => by obtain ⟨g, hg, e, _⟩ := like_get hk hp h; have := I.keys i g hg; omega, fun i f h => by obtain ⟨g, hg, _, e⟩ := like_get hk hp h; have := I.bd i g hg; omega⟩
theorem victim_keep {hand : Nat} (I : RInv fr m) (hh : hand < fr.length) : ∃ o fr1 hand1, victimR fr hand = (o, fr1, hand1) ∧ RInv fr1 m ∧ fr1.length = fr.length ∧ hand1 < fr.length := by
  unfold victimR
  cases hF : findF fr (-1) with
  | some v => exact ⟨_, _, _, rfl, I, rfl, hh⟩
  | none =>
    obtain ⟨a, b, c⟩ := spin_keep (2 * fr.length) fr hand
    exact ⟨_, _, _, rfl, rinv_like I a b, like_length a, c hh⟩
theorem put_keep (I : RInv fr m) (i key : Int) : RInv (putR fr i key).2 m ∧ (putR fr i key).2.length = fr.length := by
  unfold putR
  cases hq : frAt fr i with
  | none => exact ⟨I, rfl⟩
  | some f =>
    obtain ⟨k, rfl, hk, hf⟩ := frAt_some hq
    dsimp only
    split
    · rename_i hm
      exact ⟨rinv_set I (by have := hm.1; show -1 ≤ key; omega) (I.bd k f hf), List.length_set ..⟩
    · exact ⟨I, rfl⟩
theorem drop_keep (I : RInv fr m) (i : Int) : RInv (dropR fr i).2 m ∧ (dropR fr i).2.length = fr.length := by
  unfold dropR
  cases hq : frAt fr i with
  | none => exact ⟨I, rfl⟩
  | some f =>
    obtain ⟨k, rfl, hk, hf⟩ := frAt_some hq
    dsimp only
    split
    · exact ⟨rinv_set I (Int.le_refl _) (I.bd k f hf), List.length_set ..⟩
    · exact ⟨I, rfl⟩
theorem touch_keep (I : RInv fr m) (i : Int) : RInv (touchR fr i).2 m ∧ (touchR fr i).2.length = fr.length := by
  unfold touchR
  cases hq : frAt fr i with
  | none => exact ⟨I, rfl⟩
  | some f =>
    obtain ⟨k, rfl, hk, hf⟩ := frAt_some hq
    dsimp only
    split
    · exact ⟨rinv_set I (I.keys k f hf) (I.bd k f hf), List.length_set ..⟩
    · exact ⟨I, rfl⟩
theorem pin_keep (I : RInv fr m) (i : Int) : RInv (pinR fr i).2 (m + 1) ∧ (pinR fr i).2.length = fr.length := by
  unfold pinR
  cases hq : frAt fr i with
  | none => exact ⟨rinv_mono I (Nat.le_succ _), rfl⟩
  | some f =>
    obtain ⟨k, rfl, hk, hf⟩ := frAt_some hq
    dsimp only
    split
    · have := I.bd k f hf
      exact ⟨rinv_set (rinv_mono I (Nat.le_succ _)) (I.keys k f hf) (by dsimp only; omega), List.length_set ..⟩
    · exact ⟨rinv_mono I (Nat.le_succ _), rfl⟩
theorem unpin_keep (I : RInv fr m) (i : Int) : RInv (unpinR fr i).2 m ∧ (unpinR fr i).2.length = fr.length := by
  unfold unpinR
  cases hq : frAt fr i with
  | none => exact ⟨I, rfl⟩
  | some f =>
    obtain ⟨k, rfl, hk, hf⟩ := frAt_some hq
    dsimp only
    split
    · have := I.bd k f hf
      exact ⟨rinv_set I (I.keys k f hf) (by dsimp only; omega), List.length_set ..⟩
    · exact ⟨I, rfl⟩
theorem touch_neg (fr : List Fr) : touchR fr (-1) = (false, fr) := by
  simp only [touchR, frAt_out (fr := fr) (i := -1) (.inl (by decide))]
theorem pins_out {i : Int} (h : i < 0 ∨ (fr.length : Int) ≤ i) : pinsR fr i = 0 := by simp only [pinsR, frAt_out h]
theorem key_out {i : Int} (h : i < 0 ∨ (fr.length : Int) ≤ i) : keyR fr i = (0, false) := by simp only [keyR, frAt_out h]
end

section
variable {w w' : World} {cb fb qb gb cap hand hand' : Nat} {fr fr' : List Fr}
theorem cr_ne (h : CA w cb fb fr hand) (k : RA w qb gb cap fr' hand') : ¬ cb = qb ∧ ¬ cb = gb ∧ ¬ fb = qb ∧ ¬ fb = gb := by
  obtain ⟨h1, ⟨c1, h2, _⟩, _⟩ := h
  obtain ⟨k1, ⟨c2, k2, _⟩, _⟩ := k
  exact ⟨blk_ne h1 k1 (by decide), blk_ne h1 k2 (by decide), blk_ne h2 k1 (by decide), blk_ne h2 k2 (by decide)⟩
theorem ca_only (h : CA w cb fb fr hand) (k : RA w qb gb cap fr' hand') (o : Only qb gb w w') : CA w' cb fb fr hand := by
  obtain ⟨n1, n2, n3, n4⟩ := cr_ne h k
  obtain ⟨hc, ⟨cs, hf, hx⟩, hl⟩ := h
  exact ⟨blk_only hc o n1 n2, ⟨cs, blk_only hf o n3 n4, hx⟩, hl⟩
theorem ra_only (h : CA w cb fb fr hand) (k : RA w qb gb cap fr' hand') (o : Only cb fb w w') : RA w' qb gb cap fr' hand' := by
  obtain ⟨n1, n2, n3, n4⟩ := cr_ne h k
  obtain ⟨hc, ⟨cs, hf, hx⟩, hl⟩ := k
  exact ⟨blk_only hc o (fun e => n1 e.symm) (fun e => n3 e.symm), ⟨cs, blk_only hf o (fun e => n2 e.symm) (fun e => n4 e.symm), hx⟩, hl⟩
theorem ca_lt (h : CA w cb fb fr hand) : cb < w.heap.size ∧ fb < w.heap.size := by
  obtain ⟨h1, ⟨c1, h2, _⟩, _⟩ := h
  exact ⟨blk_lt h1, blk_lt h2⟩
theorem ra_lt (h : RA w qb gb cap fr hand) : qb < w.heap.size ∧ gb < w.heap.size := by
  obtain ⟨h1, ⟨c1, h2, _⟩, _⟩ := h
  exact ⟨blk_lt h1, blk_lt h2⟩
end
end Go.Proofs.Ytecjccjgcdnpnaa
