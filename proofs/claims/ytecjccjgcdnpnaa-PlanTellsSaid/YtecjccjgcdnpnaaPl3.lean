/- The law PlanTells holds of every geometry and every two numbers. -/
import Derived.Test.YtecjccjgcdnpnaaPl
namespace Go.Proofs.Ytecjccjgcdnpnaa
open Go.RowKit
set_option linter.unusedSimpArgs false
set_option linter.unusedVariables false
attribute [local go_sem] field25 field25_0 field25_2

set_option maxRecDepth 100000 in
set_option maxHeartbeats 4000000 in
theorem planTells (p s l f n m : Int) (w : World) :
    Calls Try.prog 3 #[gv p s l f, .int .i64 n, .int .i64 m] w fun e w' => e = .returned (.bool true) ∧ Below w.heap.size w w' := by
  go_enter Try.func3, Try.ntmps3
  go_wp2_with fail
  refine (sizes14 p s l f _).mono ?_
  rintro e w1 ⟨rfl, hb1⟩
  obtain ⟨hc1, hf1⟩ := bcell hb1
  have hz1 := hb1.size
  simp at hz1
  have hl1 : w.heap.size < w1.heap.size := by omega
  go_wp2_with fail
  refine (where15 p s l f m _).mono ?_
  rintro e w2 ⟨rfl, hb2⟩
  obtain ⟨hc2, hf2⟩ := bcell hb2
  have hz2 := hb2.size
  simp at hz2
  have hl2 : w.heap.size < w2.heap.size := by omega
  have hl2' : w1.heap.size < w2.heap.size := by omega
  go_wp2_with fail
  refine (of16 p s l f m _).mono ?_
  rintro e w3 ⟨rfl, hb3⟩
  obtain ⟨hc3, hf3⟩ := bcell hb3
  have hz3 := hb3.size
  simp at hz3
  have hl3 : w.heap.size < w3.heap.size := by omega
  have hl3' : w1.heap.size < w3.heap.size := by omega
  have hl3'' : w2.heap.size < w3.heap.size := by omega
  have hX : w3.cell? ⟨w.heap.size, 0, none⟩ = some (.int .i64 p) ∧ w3.cell? ⟨w.heap.size, 1, none⟩ = some (.int .i64 s) ∧ w3.cell? ⟨w.heap.size, 2, none⟩ = some (.int .i64 l) ∧ w3.cell? ⟨w.heap.size, 3, none⟩ = some (.int .i64 f) ∧
     w3.cell? ⟨w1.heap.size, 0, none⟩ = some (.int .i64 (mapsV p s l f)) ∧ w3.cell? ⟨w1.heap.size, 1, none⟩ = some (.int .i64 (totalV p s l f)) ∧ w3.cell? ⟨w1.heap.size, 2, none⟩ = some (.int .i64 (capV p s l f)) ∧ 
     w3.cell? ⟨w2.heap.size, 0, none⟩ = some (.int .i64 (ofS p s l f m)) ∧ w3.cell? ⟨w2.heap.size, 1, none⟩ = some (.int .i64 (ofO p s l f m)) ∧ w3.cell? ⟨w2.heap.size, 2, none⟩ = some (.bool (inB p s l f m)) := by
    refine ⟨?_, ?_, ?_, ?_, ?_, ?_, ?_, ?_, ?_, ?_⟩ <;> go_simp
  obtain ⟨x0, x1, x2, x3, y0, y1, y2, z0, z1, z2⟩ := hX
  clear hc1 hf1 hc2 hf2 hc3 hf3
  have HB : Below w.heap.size w w3 := bel_step (bel_new (bel_step (bel_new (bel_step (bel_box w _) hb1) _) hb2) _) hb3
  have HBd := bel_draw1 HB
  clear hb1 hb2 hb3
  go_wp2_with fail
  go_region_held3 (fun w' => w'.cell? ⟨w.heap.size, 0, none⟩ = some (.int .i64 p) ∧ w'.cell? ⟨w.heap.size, 1, none⟩ = some (.int .i64 s) ∧ w'.cell? ⟨w.heap.size, 2, none⟩ = some (.int .i64 l) ∧ w'.cell? ⟨w.heap.size, 3, none⟩ = some (.int .i64 f) ∧
     w'.cell? ⟨w1.heap.size, 0, none⟩ = some (.int .i64 (mapsV p s l f)) ∧ w'.cell? ⟨w1.heap.size, 1, none⟩ = some (.int .i64 (totalV p s l f)) ∧ w'.cell? ⟨w1.heap.size, 2, none⟩ = some (.int .i64 (capV p s l f)) ∧ 
     w'.cell? ⟨w2.heap.size, 0, none⟩ = some (.int .i64 (ofS p s l f m)) ∧ w'.cell? ⟨w2.heap.size, 1, none⟩ = some (.int .i64 (ofO p s l f m)) ∧ w'.cell? ⟨w2.heap.size, 2, none⟩ = some (.bool (inB p s l f m)) ∧ Below w.heap.size w w')
      (first | go_keep | ((try go_split_ands); refine ⟨?_, ?_, ?_, ?_, ?_, ?_, ?_, ?_, ?_, ?_, ?_⟩ <;> (first | assumption | go_keep | exact bel_keep hb2 ‹_› | exact bel_keep1 hb2 ‹_› | exact bel_draw1 (by assumption) | exact bel_step (by assumption) hb2 | exact bel_step (bel_draw1 (by assumption)) hb2)))
      (first
        | (go_at_call 17; refine (good17 p s l f _).mono ?_; rintro e w9 ⟨rfl, hb2⟩)
        | (go_at_call 18; refine (good18 p s l f _).mono ?_; rintro e w9 ⟨rfl, hb2⟩)
        | (go_at_call 19; refine (maps19 p s l f _).mono ?_; rintro e w9 ⟨rfl, hb2⟩)
        | (go_at_call 20; refine (total20 p s l f _).mono ?_; rintro e w9 ⟨rfl, hb2⟩)
        | (go_at_call 21; refine (cap21 p s l f _).mono ?_; rintro e w9 ⟨rfl, hb2⟩)
        | (go_at_call 22; refine (seg22 p s l f n _).mono ?_; rintro e w9 ⟨rfl, hb2⟩)
        | (go_at_call 23; refine (seg23 p s l f n _).mono ?_; rintro e w9 ⟨rfl, hb2⟩)
        | (go_at_call 24; refine (wakes24 _).mono ?_; rintro e w9 ⟨rfl, hb2⟩))
  go_wp2_with fail
  go_ret
  go_split_ands
  exact ⟨rfl, by assumption⟩
end Go.Proofs.Ytecjccjgcdnpnaa
