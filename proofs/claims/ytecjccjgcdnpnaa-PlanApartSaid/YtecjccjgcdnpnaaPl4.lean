/- The law PlanApart holds of every geometry. -/
import Derived.Test.YtecjccjgcdnpnaaMem
namespace Go.Proofs.Ytecjccjgcdnpnaa
open Go.RowKit
set_option linter.unusedSimpArgs false
set_option linter.unusedVariables false
attribute [local go_sem] field25 field25_0 field25_2

set_option maxRecDepth 100000 in
set_option maxHeartbeats 1000000 in
theorem planApart_no (p s l f : Int) (w : World) (hg : goodB p s l f = false) :
    Calls Try.prog 4 #[gv p s l f] w fun e w' => e = .returned (.bool true) ∧ Below w.heap.size w w' := by
  have e1 : totalV p s l f = 0 := by simp [totalV, hg]
  have e2 : capV p s l f = 0 := by simp [capV, hg]
  have E1 := Lib.hid e1
  have E2 := Lib.hid e2
  clear e1 e2
  go_enter Try.func4, Try.ntmps4
  go_wp2_with fail
  refine (good17 p s l f _).mono ?_
  rintro e w1 ⟨rfl, hb1⟩
  have B0 : Blk w1 w.heap.size 23 #[.int .i64 p, .int .i64 s, .int .i64 l, .int .i64 f] := blk_keep (blk_new w _ _) hb1
  have HB := bel_step (bel_box w _) hb1
  clear hb1
  have x0 : w1.cell? ⟨w.heap.size, 0, none⟩ = _ := blk_cell B0 0
  have x1 : w1.cell? ⟨w.heap.size, 1, none⟩ = _ := blk_cell B0 1
  have x2 : w1.cell? ⟨w.heap.size, 2, none⟩ = _ := blk_cell B0 2
  have x3 : w1.cell? ⟨w.heap.size, 3, none⟩ = _ := blk_cell B0 3
  simp at x0 x1 x2 x3
  rw [hg]
  clear hg
  go_wp2_with fail
  refine (total20 p s l f _).mono ?_
  rintro e w2 ⟨rfl, hb2⟩
  rw [E1.out]
  have y0 := bel_keep hb2 x0
  have y1 := bel_keep hb2 x1
  have y2 := bel_keep hb2 x2
  have y3 := bel_keep hb2 x3
  go_wp2_with fail
  refine (cap21 p s l f _).mono ?_
  rintro e w3 ⟨rfl, hb3⟩
  rw [E2.out]
  go_wp2_with fail
  refine (wakes24 _).mono ?_
  rintro e w4 ⟨rfl, hb4⟩
  go_wp2_with fail
  go_ret
  exact ⟨rfl, bel_step (bel_step (bel_step HB hb2) hb3) hb4⟩

theorem at_facts {p s l f : Int} (hg : goodB p s l f = true) (k o : Nat) (hk : (k : Int) < s) (ho : (o : Int) < l) :
    ofS p s l f (4 + k * l + o) = k ∧ ofO p s l f (4 + k * l + o) = o ∧ inB p s l f (4 + k * l + o) = true := by
  obtain ⟨h1, h2, h3, h4, h5, h6, h7, h8⟩ := goodB_iff.1 hg
  have hkl : 0 ≤ (k : Int) * l := Int.mul_nonneg (by omega) (by omega)
  have hkl2 : ((k : Int) + 1) * l ≤ s * l := Int.mul_le_mul_of_nonneg_right (by omega) (by omega)
  rw [Int.add_mul] at hkl2
  have hi : inB p s l f (4 + k * l + o) = true := by
    simp [inB, hg]
    omega
  have e : 4 + (k : Int) * l + o - 4 = o + k * l := by omega
  refine ⟨?_, ?_, hi⟩
  · simp only [ofS, hi, if_true, e]
    rw [Int.add_mul_ediv_right _ _ (by omega), Int.ediv_eq_zero_of_lt (by omega) ho]
    omega
  · simp only [ofO, hi, if_true, e]
    rw [Int.add_mul_emod_self_right, Int.emod_eq_of_lt (by omega) ho]

theorem end_facts {p s l f : Int} (hg : goodB p s l f = true) :
    inB p s l f 3 = false ∧ inB p s l f (4 + s * l) = false ∧ totalV p s l f = 4 + s * l := by
  refine ⟨by simp [inB], by simp [inB], by simp only [totalV, hg, if_true]⟩

theorem cap_facts {p s l f : Int} (hg : goodB p s l f = true) :
    p ≤ mapsV p s l f * 8 ∧ (mapsV p s l f - 1) * 8 < p ∧ 0 ≤ capV p s l f ∧ capV p s l f ≤ p ∧ (capV p s l f = 0 ∨ 3 * capV p s l f + mapsV p s l f ≤ 4 * (s - 4)) ∧ (capV p s l f = p ∨ 4 * (s - 4) < 3 * (capV p s l f + 1) + mapsV p s l f) ∧ 1 ≤ mapsV p s l f ∧ mapsV p s l f ≤ 8 := by
  obtain ⟨h1, h2, h3, h4, h5, h6, h7, h8⟩ := goodB_iff.1 hg
  simp only [capV, mapsV, hg, if_true]
  omega

set_option maxRecDepth 100000 in
set_option maxHeartbeats 2000000 in
theorem planApart_yes (p s l f : Int) (w : World) (hg : goodB p s l f = true) :
    Calls Try.prog 4 #[gv p s l f] w fun e w' => e = .returned (.bool true) ∧ Below w.heap.size w w' := by
  obtain ⟨h1, h2, h3, h4, h5, h6, h7, h8⟩ := goodB_iff.1 hg
  obtain ⟨hm3, hm4⟩ := mul_bd (by omega : 0 ≤ s) (by omega) (by omega : 0 ≤ l) (by omega)
  have HG := Lib.hid hg
  clear hg
  go_enter Try.func4, Try.ntmps4
  go_wp2_with fail
  refine (good17 p s l f _).mono ?_
  rintro e w1 ⟨rfl, hb1⟩
  have B0 : Blk w1 w.heap.size 23 #[.int .i64 p, .int .i64 s, .int .i64 l, .int .i64 f] := blk_keep (blk_new w _ _) hb1
  have HB := bel_step (bel_box w _) hb1
  clear hb1
  rw [HG.out]
  go_wp2_with fail
  go_loopg [3, 4] s.toNat (fun gk s3 s4 wr => ∃ k : Nat, (k : Int) ≤ s ∧ gk = s.toNat - k ∧ s4 = .int .i64 k ∧ s3 = .int .i64 (4 + k * l) ∧ Below w.heap.size w wr ∧ Blk wr w.heap.size 23 #[.int .i64 p, .int .i64 s, .int .i64 l, .int .i64 f])
  case atStart => exact ⟨0, by omega, by omega, rfl, by simp, HB, B0⟩
  case round =>
    obtain ⟨k, hk, hgk, rfl, rfl, HB, B0⟩ := hrel
    have x0 := blk_cell B0 0
    have x1 := blk_cell B0 1
    have x2 := blk_cell B0 2
    have x3 := blk_cell B0 3
    simp at x0 x1 x2 x3
    by_cases hlt : (k : Int) < s
    · have e1 : segV p s l f k = 4 + k * l := by
        simp only [segV, HG.out, if_true]
        rw [if_neg (by omega), if_neg (by omega)]
      have E1 := Lib.hid e1
      clear e1
      go_wp2_with fail
      refine (seg22 p s l f k _).mono ?_
      rintro e w2 ⟨rfl, hb2⟩
      rw [E1.out]
      have B2 := blk_keep B0 hb2
      have HB2 := bel_step HB hb2
      clear hb2 B0 HB x0 x1 x2 x3 E1
      have x2 := blk_cell B2 2
      simp at x2
      go_wp2_with fail
      go_loopg [3, 5] l.toNat (fun gi s3 s5 wi => ∃ o : Nat, (o : Int) ≤ l ∧ gi = l.toNat - o ∧ s5 = .int .i64 o ∧ s3 = .int .i64 (4 + k * l + o) ∧ Below w.heap.size w wi ∧ Blk wi w.heap.size 23 #[.int .i64 p, .int .i64 s, .int .i64 l, .int .i64 f])
      case atStart => exact ⟨0, by omega, by omega, rfl, by simp, HB2, B2⟩
      case round =>
        obtain ⟨o, ho, hgi, rfl, rfl, HB, B0⟩ := hrel
        clear B2 HB2 x2
        have x0 := blk_cell B0 0
        have x1 := blk_cell B0 1
        have x2 := blk_cell B0 2
        have x3 := blk_cell B0 3
        simp at x0 x1 x2 x3
        by_cases hlo : (o : Int) < l
        · have F := Lib.hid (at_facts HG.out k o hlt hlo)
          have q1 : 0 ≤ (k : Int) * l := Int.mul_nonneg (by omega) (by omega)
          have q2 : (k : Int) * l ≤ 512 := (mul_bd (by omega : (0 : Int) ≤ k) (by omega) (by omega : 0 ≤ l) (by omega)).2
          go_wp2_with fail
          refine (of16 p s l f _ _).mono ?_
          rintro e w2 ⟨rfl, hb2⟩
          rw [F.out.1, F.out.2.1, F.out.2.2]
          have B2 := blk_keep B0 hb2
          have HB2 := bel_step HB hb2
          clear F hb2 B0 HB x0 x1 x2 x3
          go_wp2_with fail
          go_roundg (l.toNat - (o + 1))
          case measure => omega
          case rel => exact ⟨o + 1, by omega, rfl, by go_num, by go_num, HB2, B2⟩
        · have hol : (o : Int) = l := by omega
          have HOL := Lib.hid hol
          clear hol
          go_wp2_with fail
          go_roundg (s.toNat - (k + 1))
          case measure => omega
          case rel => exact ⟨k + 1, by omega, rfl, by go_num, by rw [HOL.out]; rw [show ((k + 1 : Nat) : Int) * l = k * l + l by rw [Int.natCast_add, Int.add_mul]; simp]; go_num, HB, B0⟩
    · have hks : (k : Int) = s := by omega
      have HKS := Lib.hid hks
      clear hks
      obtain ⟨f1, f2, f3⟩ := end_facts HG.out
      have F1 := Lib.hid f1
      have F2 := Lib.hid f2
      have F3 := Lib.hid f3
      clear f1 f2 f3
      obtain ⟨c1, c2, c3, c4, c5, c6, c7, c8⟩ := cap_facts HG.out
      go_wp2_with fail
      refine (of16 p s l f 3 _).mono ?_
      rintro e w2 ⟨rfl, hb2⟩
      rw [F1.out]
      have B2 := blk_keep B0 hb2
      have HB2 := bel_step HB hb2
      clear hb2 B0 HB x0 x1 x2 x3
      have x0 := blk_cell B2 0
      have x1 := blk_cell B2 1
      have x2 := blk_cell B2 2
      have x3 := blk_cell B2 3
      simp at x0 x1 x2 x3
      go_wp2_with fail
      refine (of16 p s l f _ _).mono ?_
      rintro e w3 ⟨rfl, hb3⟩
      rw [HKS.out, F2.out]
      have B3 := blk_keep B2 hb3
      have HB3 := bel_step HB2 hb3
      clear hb3 B2 HB2 x0 x1 x2 x3
      have x0 := blk_cell B3 0
      have x1 := blk_cell B3 1
      have x2 := blk_cell B3 2
      have x3 := blk_cell B3 3
      simp at x0 x1 x2 x3
      go_wp2_with fail
      refine (total20 p s l f _).mono ?_
      rintro e w4 ⟨rfl, hb4⟩
      rw [F3.out]
      have B4 := blk_keep B3 hb4
      have HB4 := bel_step HB3 hb4
      clear hb4 B3 HB3 x0 x1 x2 x3
      have x0 := blk_cell B4 0
      have x1 := blk_cell B4 1
      have x2 := blk_cell B4 2
      have x3 := blk_cell B4 3
      simp at x0 x1 x2 x3
      go_wp2_with fail
      have X0 := ext_cell x0
      have X1 := ext_cell x1
      have X2 := ext_cell x2
      have X3 := ext_cell x3
      refine wp_region_ext (by kernel_rfl) (by kernel_rfl) ?_
      repeat (go_big_quiet_step (first | (go_at_call 21; exact (cap21 _ _ _ _ _).mono fun e w9 h => ⟨h.1, ext_mk _ h.2⟩) | (go_at_call 19; exact (maps19 _ _ _ _ _).mono fun e w9 h => ⟨h.1, ext_mk _ h.2⟩)))
      refine wpQuiet_nil ?_
      rintro _ ⟨⟨w5, hb5⟩, rfl⟩
      have B5 := blk_keep B4 hb5
      have HB5 := bel_step HB4 hb5
      clear hb5 B4 HB4 x0 x1 x2 x3 X0 X1 X2 X3
      have x0 := blk_cell B5 0
      have x1 := blk_cell B5 1
      simp at x0 x1
      generalize capV p s l f = c at *
      generalize mapsV p s l f = m at *
      clear hm3 hm4 HKS F1 F2 F3 hlt hk
      by_cases d1 : c = 0 <;> by_cases d2 : c = p
      · omega
      · have d1' : (c == 0) = true := by simp [d1]
        have d2' : (c == p) = false := by simp [d2]
        have d3 : 4 * (s - 4) < 3 * (c + 1) + m := by omega
        have D1 := Lib.hid d1
        clear d1 d2 c5 c6
        go_wp2_with fail
        refine (wakes24 _).mono ?_
        rintro e w6 ⟨rfl, hb6⟩
        go_wp2_with fail
        go_ret
        exact ⟨rfl, bel_step HB5 hb6⟩
      · have d1' : (c == 0) = false := by simp [d1]
        have d2' : (c == p) = true := by simp [d2]
        have d3 : 3 * c + m ≤ 4 * (s - 4) := by omega
        have D2 := Lib.hid d2
        clear d1 d2 c5 c6
        go_wp2_with fail
        refine (wakes24 _).mono ?_
        rintro e w6 ⟨rfl, hb6⟩
        go_wp2_with fail
        go_ret
        exact ⟨rfl, bel_step HB5 hb6⟩
      · have d1' : (c == 0) = false := by simp [d1]
        have d2' : (c == p) = false := by simp [d2]
        have d3 : 3 * c + m ≤ 4 * (s - 4) := by omega
        have d4 : 4 * (s - 4) < 3 * (c + 1) + m := by omega
        clear d1 d2 c5 c6
        go_wp2_with fail
        refine (wakes24 _).mono ?_
        rintro e w6 ⟨rfl, hb6⟩
        go_wp2_with fail
        go_ret
        exact ⟨rfl, bel_step HB5 hb6⟩

theorem planApart (p s l f : Int) (w : World) :
    Calls Try.prog 4 #[gv p s l f] w fun e w' => e = .returned (.bool true) ∧ Below w.heap.size w w' := by
  rcases Bool.eq_false_or_eq_true (goodB p s l f) with hg | hg
  · exact planApart_yes p s l f w hg
  · exact planApart_no p s l f w hg
end Go.Proofs.Ytecjccjgcdnpnaa
