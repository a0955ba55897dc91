/- An argument that is a list of steps, or of bools, read as the walks want it. -/
import Derived.Test.YtecjccjgcdnpnaaKl
import Derived.Deep.Strs
import Derived.Deep.Slices
namespace Go.Proofs.Ytecjccjgcdnpnaa
open Go.ChangeShapes Go.WideShapes Go.Deep
set_option linter.unusedVariables false
instance : Inhabited St := ⟨⟨0, 0, 0⟩⟩

section
variable {H : Type} {enc : TypeId × Value → H} {w : World} {base : Nat} {spare : Nat → Bool} {held : Bool} {fuel : Nat} {v : Value} {x : DataW H × List MemPlace}

theorem open_steps (h : DataW.trod enc Try.prog w base spare held fuel 44 [v] = some x) : ∃ a len cap zs, v = .slice a len cap ∧ StRow w a len cap zs := by
  rcases open_slice Try.underlying44 h with ⟨hcs, _⟩ | ⟨a, len, cap, m, n, D, Pl, hcs, hb, hl, hm, hmm, _, hx⟩
  · refine ⟨none, 0, 0, [], by simpa using hcs, .inl ⟨rfl, rfl, rfl, rfl⟩⟩
  · have hlm : len ≤ m := by rw [hmm]; split <;> omega
    have ce : Try.prog.cellsOf 52 = 3 := by kernel_rfl
    have c3 : Try.prog.cellsOf 3 = 1 := by kernel_rfl
    have each : ∀ i, i < len → ∃ z : St, w.cell? (a.add (i * 3)) = some (.int .i64 z.kind) ∧ w.cell? (a.add (i * 3 + 1)) = some (.int .i64 z.frame) ∧ w.cell? (a.add (i * 3 + 2)) = some (.int .i64 z.key) := by
      intro i hi
      obtain ⟨cs', h1, h2⟩ := hx i (by omega)
      rw [ce] at h1
      obtain ⟨_, hlen, hcell⟩ := World.cells?_some h1
      obtain ⟨y0, y1, y2, n', _, _, g0, g1, g2⟩ := trod_struct3 Try.underlying52 h2
      match cs', hlen with
      | [v0, v1, v2], _ =>
        have e0 := hcell 0 (by omega)
        have e1 := hcell 1 (by omega)
        have e2 := hcell 2 (by omega)
        rw [add_add] at e0 e1 e2
        simp [c3] at g0 g1 g2
        obtain ⟨n0, q0, _⟩ := DataW.trod_int Try.underlying3 g0
        obtain ⟨n1, q1, _⟩ := DataW.trod_int Try.underlying3 g1
        obtain ⟨n2, q2, _⟩ := DataW.trod_int Try.underlying3 g2
        simp at q0 q1 q2
        subst q0 q1 q2
        exact ⟨⟨n0, n1, n2⟩, by simpa using e0, by simpa using e1, by simpa using e2⟩
    obtain ⟨q, hq⟩ := choose_lt each
    refine ⟨some a, len, cap, (List.range len).map q, by simpa using hcs, .inr ⟨a, rfl, hl, hm, by simp, fun i z hz => ?_⟩⟩
    by_cases hi : i < len
    · simp [hi] at hz
      subst hz
      exact hq i hi
    · simp [hi] at hz

theorem open_bos (h : DataW.trod enc Try.prog w base spare held fuel 70 [v] = some x) : ∃ a len cap zs, v = .slice a len cap ∧ BoRow w a len cap zs := by
  rcases open_slice1 Try.underlying70 (by kernel_rfl) h with ⟨hcs, _⟩ | ⟨a, len, cap, m, n, V, D, Pl, hcs, hb, hl, hm, hmm, _, hx⟩
  · refine ⟨none, 0, 0, [], by simpa using hcs, .inl ⟨rfl, rfl, rfl, rfl⟩⟩
  · have hlm : len ≤ m := by rw [hmm]; split <;> omega
    have each : ∀ i, i < len → ∃ z : Bool, w.cell? (a.add i) = some (.bool z) := by
      intro i hi
      obtain ⟨h1, h2⟩ := hx i (by omega)
      obtain ⟨b, q, _⟩ := DataW.trod_bool Try.underlying4 h2
      simp at q
      exact ⟨b, by rw [h1, q]⟩
    obtain ⟨q, hq⟩ := choose_lt each
    refine ⟨some a, len, cap, (List.range len).map q, by simpa using hcs, .inr ⟨a, rfl, hl, hm, by simp, fun i z hz => ?_⟩⟩
    by_cases hi : i < len
    · simp [hi] at hz
      subst hz
      exact hq i hi
    · simp [hi] at hz
end
end Go.Proofs.Ytecjccjgcdnpnaa
