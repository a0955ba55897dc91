/- The law PlanGrows holds of every geometry. -/
import Derived.Test.YtecjccjgcdnpnaaMem
namespace Go.Proofs.Ytecjccjgcdnpnaa
open Go.RowKit
set_option linter.unusedSimpArgs false
set_option linter.unusedVariables false
attribute [local go_sem] field25 field25_0 field25_2

set_option maxRecDepth 100000 in
set_option maxHeartbeats 4000000 in
theorem planGrows_no (p s l f : Int) (w : World) (hg : goodB p s l f = false) :
    Calls Try.prog 5 #[gv p s l f] w fun e w' => e = .returned (.bool true) ∧ Below w.heap.size w w' := by
  go_enter Try.func5, Try.ntmps5
  go_wp2_with fail
  refine (good18 p s l f _).mono ?_
  rintro e w1 ⟨rfl, hb1⟩
  obtain ⟨hc1, hf1⟩ := bcell hb1
  have hz1 := hb1.size
  simp at hz1
  have hl1 : w.heap.size < w1.heap.size := by omega
  rw [hg]
  go_wp2_with fail
  refine (good17 p s l f _).mono ?_
  rintro e w2 ⟨rfl, hb2⟩
  rw [hg]
  clear hg
  go_wp2_with fail
  refine (wakes24 _).mono ?_
  rintro e w3 ⟨rfl, hb3⟩
  go_wp2_with fail
  go_ret
  exact ⟨rfl, bel_step (bel_step (bel_step (bel_box w _) hb1) hb2) hb3⟩

theorem good_seg {p s l f : Int} (hg : goodB p s l f = true) (hh : goodB p (s + 1) l f = true) :
    totalV p s l f = 4 + s * l ∧ totalV p (s + 1) l f = 4 + s * l + l ∧ decide (capV p (s + 1) l f < capV p s l f) = false ∧ mapsV p (s + 1) l f = mapsV p s l f := by
  obtain ⟨h1, h2, h3, h4, h5, h6, h7, h8⟩ := goodB_iff.1 hg
  refine ⟨by simp only [totalV, hg, if_true], by simp only [totalV, hh, if_true]; rw [Int.add_mul]; omega, ?_, by simp only [mapsV, hh, hg, if_true]⟩
  rw [decide_eq_false_iff_not]
  simp only [capV, hh, hg, if_true]
  omega

theorem good_page {p s l f : Int} (hg : goodB p s l f = true) (hk : goodB (p + 1) s l f = true) :
    mapsV p s l f = (p - 1) / 8 + 1 ∧ mapsV (p + 1) s l f = p / 8 + 1 ∧ totalV p s l f = 4 + s * l ∧ totalV (p + 1) s l f = 4 + s * l ∧ decide (capV (p + 1) s l f ≤ capV p s l f + 1) = true ∧ 0 ≤ capV p s l f ∧ capV p s l f ≤ 64 := by
  obtain ⟨h1, h2, h3, h4, h5, h6, h7, h8⟩ := goodB_iff.1 hg
  have e : p + 1 - 1 = p := by omega
  refine ⟨by simp only [mapsV, hg, if_true], by simp only [mapsV, hk, if_true, e], by simp only [totalV, hg, if_true], by simp only [totalV, hk, if_true], ?_, ?_, ?_⟩
  · rw [decide_eq_true_eq]
    simp only [capV, hk, hg, if_true, e]
    omega
  · simp only [capV, hg, if_true]; omega
  · simp only [capV, hg, if_true]; omega

set_option maxRecDepth 100000 in
set_option maxHeartbeats 4000000 in
theorem planGrows_0 (p s l f : Int) (w : World) (hg : goodB p s l f = true) (hh : goodB p (s + 1) l f = true) (hk : goodB (p + 1) s l f = true) (hp : p % 8 = 0) :
    Calls Try.prog 5 #[gv p s l f] w fun e w' => e = .returned (.bool true) ∧ Below w.heap.size w w' := by
  obtain ⟨h1, h2, h3, h4, h5, h6, h7, h8⟩ := goodB_iff.1 hg
  obtain ⟨hm3, hm4⟩ := mul_bd (by omega : 0 ≤ s) (by omega) (by omega : 0 ≤ l) (by omega)
  obtain ⟨t1, t2, t3, t4⟩ := good_seg hg hh
  have T1 := Lib.hid t1
  have T2 := Lib.hid t2
  have T4 := Lib.hid t4
  clear t1 t2 t4
  obtain ⟨u1, u2, u3, u4, u5, u6, u7⟩ := good_page hg hk
  have U1 := Lib.hid u1
  have U2 := Lib.hid u2
  have U3 := Lib.hid u3
  have U4 := Lib.hid u4
  have U5 := Lib.hid u5
  clear u1 u2 u3 u4 u5
  have hq : (p % 8 == 0) = true := by simp [hp]
  have HP := Lib.hid hp
  clear hp
  have HK := Lib.hid hk
  clear hk
  have HH := Lib.hid hh
  clear hh
  go_enter Try.func5, Try.ntmps5
  go_wp2_with fail
  refine (good18 p s l f _).mono ?_
  rintro e w1 ⟨rfl, hb1⟩
  obtain ⟨hc1, hf1⟩ := bcell hb1
  have hz1 := hb1.size
  simp at hz1
  have hl1 : w.heap.size < w1.heap.size := by omega
  rw [hg]
  clear hg
  go_wp2_with fail
  have B0 : Blk w1 w.heap.size 23 #[.int .i64 p, .int .i64 s, .int .i64 l, .int .i64 f] := blk_keep (blk_new w _ _) hb1
  have HB1 := bel_step (bel_box w _) hb1
  go_cut [3, 4] (fun s3 s4 wx => ∃ bh bk : Nat, s3 = .pointer (some ⟨bh, 0, none⟩) ∧ s4 = .pointer (some ⟨bk, 0, none⟩) ∧ bh ≠ bk ∧ w.heap.size < bh ∧ w.heap.size < bk ∧ Blk wx w.heap.size 23 #[.int .i64 p, .int .i64 s, .int .i64 l, .int .i64 f] ∧ Blk wx bh 23 #[.int .i64 p, .int .i64 s, .int .i64 l, .int .i64 f] ∧ Blk wx bk 23 #[.int .i64 p, .int .i64 s, .int .i64 l, .int .i64 f] ∧ Below w.heap.size w wx)
  case first =>
    go_region
    all_goals go_wp2_with fail
    all_goals go_meet
    · exact ⟨_, _, rfl, rfl, by omega, by omega, by omega, blk_drew (blk_alloc (blk_alloc B0 _) _), blk_drew (blk_alloc (blk_new _ _ _) _), blk_drew (blk_new2 _ _ _ _), bel_draw1 (bel_new (bel_new HB1 _) _)⟩
    · exact ⟨_, _, rfl, rfl, by omega, by omega, by omega, blk_drew (blk_alloc (blk_alloc B0 _) _), blk_drew (blk_new2 _ _ _ _), blk_drew (blk_alloc (blk_new _ _ _) _), bel_draw1 (bel_new (bel_new HB1 _) _)⟩
  case rest =>
    obtain ⟨bh, bk, rfl, rfl, n1, n2, n3, B1, B2, B3, HB⟩ := hcut
    clear hc1 hf1 hb1 B0 HB1
    have x0 := blk_cell B2 0
    have x1 := blk_cell B2 1
    have x2 := blk_cell B3 0
    simp at x0 x1 x2
    have f1 := blk_froz B2 1
    have f2 := blk_froz B3 0
    have f3 : (wc.setCell ⟨bh, 1, none⟩ (.int .i64 (s + 1))).frozen? ⟨bk, 0, none⟩ = false := blk_froz (blk_far B3 (p := ⟨bh, 1, none⟩) n1 _) 0
    go_wp2_with fail
    generalize hW : (wc.setCell ⟨bh, 1, none⟩ (.int .i64 (s + 1))).setCell ⟨bk, 0, none⟩ (.int .i64 (p + 1)) = w2
    have C1 : Blk w2 w.heap.size 23 #[.int .i64 p, .int .i64 s, .int .i64 l, .int .i64 f] := by subst hW; exact blk_far (blk_far B1 (by simp; omega) _) (by simp; omega) _
    have C2 : Blk w2 bh 23 #[.int .i64 p, .int .i64 (s + 1), .int .i64 l, .int .i64 f] := by subst hW; exact blk_far (blk_set B2 1 _) (by simp; omega) _
    have C3 : Blk w2 bk 23 #[.int .i64 (p + 1), .int .i64 s, .int .i64 l, .int .i64 f] := by subst hW; exact blk_set (blk_far B3 (by simp; omega) _) 0 _
    have HB2 : Below w.heap.size w w2 := by subst hW; exact bel_set (bel_set HB _ _ (by simp; omega)) _ _ (by simp; omega)
    clear hW B1 B2 B3 HB x0 x1 x2 f1 f2 f3
    have x0 := blk_cell C1 0
    have x1 := blk_cell C1 1
    have x2 := blk_cell C1 2
    have x3 := blk_cell C1 3
    have y0 := blk_cell C2 0
    have y1 := blk_cell C2 1
    have y2 := blk_cell C2 2
    have y3 := blk_cell C2 3
    have z0 := blk_cell C3 0
    have z1 := blk_cell C3 1
    have z2 := blk_cell C3 2
    have z3 := blk_cell C3 3
    simp at x0 x1 x2 x3 y0 y1 y2 y3 z0 z1 z2 z3
    clear C1 C2 C3
    have t1 := T1.out
    have t2 := T2.out
    have t4 := T4.out
    have t5 : IntKind.i64.wrap (4 + s * l + l) = 4 + s * l + l := i64_of _ (by omega) (by omega)
    have Xx0 := ext_cell x0
    have Xx1 := ext_cell x1
    have Xx2 := ext_cell x2
    have Xx3 := ext_cell x3
    have Xy0 := ext_cell y0
    have Xy1 := ext_cell y1
    have Xy2 := ext_cell y2
    have Xy3 := ext_cell y3
    have Xz0 := ext_cell z0
    have Xz1 := ext_cell z1
    have Xz2 := ext_cell z2
    have Xz3 := ext_cell z3
    refine wp_region_ext (by kernel_rfl) (by kernel_rfl) ?_
    repeat (go_big_quiet_step ((first | (go_at_call 17; exact (good17 _ _ _ _ _).mono fun e w9 h => ⟨h.1, ext_mk _ h.2⟩) | (go_at_call 19; exact (maps19 _ _ _ _ _).mono fun e w9 h => ⟨h.1, ext_mk _ h.2⟩) | (go_at_call 20; exact (total20 _ _ _ _ _).mono fun e w9 h => ⟨h.1, ext_mk _ h.2⟩) | (go_at_call 21; exact (cap21 _ _ _ _ _).mono fun e w9 h => ⟨h.1, ext_mk _ h.2⟩) | (go_at_call 18; exact (good18 _ _ _ _ _).mono fun e w9 h => ⟨h.1.trans (ret_bool HH.out), ext_mk _ h.2⟩) | (go_at_call 24; exact (wakes24 _).mono fun e w9 h => ⟨h.1, ext_mk _ h.2⟩))))
    refine wpQuiet_nil ?_
    rintro _ ⟨⟨w3, hbn⟩, rfl⟩
    clear Xx0 Xx1 Xx2 Xx3 Xy0 Xy1 Xy2 Xy3 Xz0 Xz1 Xz2 Xz3
    clear t1 t2 t3 t4 t5 T1 T2 T4
    have HB3 := bel_step HB2 hbn
    have x0 := bel_keep hbn x0
    have x1 := bel_keep hbn x1
    have x2 := bel_keep hbn x2
    have x3 := bel_keep hbn x3
    have y0 := bel_keep hbn y0
    have y1 := bel_keep hbn y1
    have y2 := bel_keep hbn y2
    have y3 := bel_keep hbn y3
    have z0 := bel_keep hbn z0
    have z1 := bel_keep hbn z1
    have z2 := bel_keep hbn z2
    have z3 := bel_keep hbn z3
    clear hbn HB2
    go_wp2_with fail
    refine (good18 _ _ _ _ _).mono ?_
    rintro e w4 ⟨rfl, hbn⟩
    have HB4 := bel_step HB3 hbn
    have x0 := bel_keep hbn x0
    have x1 := bel_keep hbn x1
    have x2 := bel_keep hbn x2
    have x3 := bel_keep hbn x3
    have y0 := bel_keep hbn y0
    have y1 := bel_keep hbn y1
    have y2 := bel_keep hbn y2
    have y3 := bel_keep hbn y3
    have z0 := bel_keep hbn z0
    have z1 := bel_keep hbn z1
    have z2 := bel_keep hbn z2
    have z3 := bel_keep hbn z3
    clear hbn HB3
    rw [HK.out]
    go_wp2_with fail
    have r2 : IntKind.i64.wrap (capV p s l f + 1) = capV p s l f + 1 := i64_of _ (by omega) (by omega)
    have r1 : IntKind.i64.wrap (p / 8 + 1) = p / 8 + 1 := i64_of _ (by omega) (by omega)
    have r3 : mapsV p s l f = p / 8 := by rw [U1.out]; have := HP.out; omega
    have r4 := U2.out
    have r5 := U3.out
    have r6 := U4.out
    have r7 := U5.out
    clear U1 U2 U3 U4 U5 HK
    have Xx0 := ext_cell x0
    have Xx1 := ext_cell x1
    have Xx2 := ext_cell x2
    have Xx3 := ext_cell x3
    have Xy0 := ext_cell y0
    have Xy1 := ext_cell y1
    have Xy2 := ext_cell y2
    have Xy3 := ext_cell y3
    have Xz0 := ext_cell z0
    have Xz1 := ext_cell z1
    have Xz2 := ext_cell z2
    have Xz3 := ext_cell z3
    refine wp_region_ext (by kernel_rfl) (by kernel_rfl) ?_
    repeat (go_big_quiet_step ((first | (go_at_call 17; exact (good17 _ _ _ _ _).mono fun e w9 h => ⟨h.1, ext_mk _ h.2⟩) | (go_at_call 19; exact (maps19 _ _ _ _ _).mono fun e w9 h => ⟨h.1, ext_mk _ h.2⟩) | (go_at_call 20; exact (total20 _ _ _ _ _).mono fun e w9 h => ⟨h.1, ext_mk _ h.2⟩) | (go_at_call 21; exact (cap21 _ _ _ _ _).mono fun e w9 h => ⟨h.1, ext_mk _ h.2⟩) | (go_at_call 18; exact (good18 _ _ _ _ _).mono fun e w9 h => ⟨h.1.trans (ret_bool HH.out), ext_mk _ h.2⟩) | (go_at_call 24; exact (wakes24 _).mono fun e w9 h => ⟨h.1, ext_mk _ h.2⟩))))
    refine wpQuiet_nil ?_
    rintro _ ⟨⟨w5, hbn⟩, rfl⟩
    clear Xx0 Xx1 Xx2 Xx3 Xy0 Xy1 Xy2 Xy3 Xz0 Xz1 Xz2 Xz3
    have HB5 := bel_step HB4 hbn
    go_wp2_with fail
    go_ret
    exact ⟨rfl, HB5⟩

set_option maxRecDepth 100000 in
set_option maxHeartbeats 4000000 in
theorem planGrows_1 (p s l f : Int) (w : World) (hg : goodB p s l f = true) (hh : goodB p (s + 1) l f = true) (hk : goodB (p + 1) s l f = true) (hp : ¬ p % 8 = 0) :
    Calls Try.prog 5 #[gv p s l f] w fun e w' => e = .returned (.bool true) ∧ Below w.heap.size w w' := by
  obtain ⟨h1, h2, h3, h4, h5, h6, h7, h8⟩ := goodB_iff.1 hg
  obtain ⟨hm3, hm4⟩ := mul_bd (by omega : 0 ≤ s) (by omega) (by omega : 0 ≤ l) (by omega)
  obtain ⟨t1, t2, t3, t4⟩ := good_seg hg hh
  have T1 := Lib.hid t1
  have T2 := Lib.hid t2
  have T4 := Lib.hid t4
  clear t1 t2 t4
  obtain ⟨u1, u2, u3, u4, u5, u6, u7⟩ := good_page hg hk
  have U1 := Lib.hid u1
  have U2 := Lib.hid u2
  have U3 := Lib.hid u3
  have U4 := Lib.hid u4
  have U5 := Lib.hid u5
  clear u1 u2 u3 u4 u5
  have hq : (p % 8 == 0) = false := by simp [hp]
  have HK := Lib.hid hk
  clear hk
  have HH := Lib.hid hh
  clear hh
  go_enter Try.func5, Try.ntmps5
  go_wp2_with fail
  refine (good18 p s l f _).mono ?_
  rintro e w1 ⟨rfl, hb1⟩
  obtain ⟨hc1, hf1⟩ := bcell hb1
  have hz1 := hb1.size
  simp at hz1
  have hl1 : w.heap.size < w1.heap.size := by omega
  rw [hg]
  clear hg
  go_wp2_with fail
  have B0 : Blk w1 w.heap.size 23 #[.int .i64 p, .int .i64 s, .int .i64 l, .int .i64 f] := blk_keep (blk_new w _ _) hb1
  have HB1 := bel_step (bel_box w _) hb1
  go_cut [3, 4] (fun s3 s4 wx => ∃ bh bk : Nat, s3 = .pointer (some ⟨bh, 0, none⟩) ∧ s4 = .pointer (some ⟨bk, 0, none⟩) ∧ bh ≠ bk ∧ w.heap.size < bh ∧ w.heap.size < bk ∧ Blk wx w.heap.size 23 #[.int .i64 p, .int .i64 s, .int .i64 l, .int .i64 f] ∧ Blk wx bh 23 #[.int .i64 p, .int .i64 s, .int .i64 l, .int .i64 f] ∧ Blk wx bk 23 #[.int .i64 p, .int .i64 s, .int .i64 l, .int .i64 f] ∧ Below w.heap.size w wx)
  case first =>
    go_region
    all_goals go_wp2_with fail
    all_goals go_meet
    · exact ⟨_, _, rfl, rfl, by omega, by omega, by omega, blk_drew (blk_alloc (blk_alloc B0 _) _), blk_drew (blk_alloc (blk_new _ _ _) _), blk_drew (blk_new2 _ _ _ _), bel_draw1 (bel_new (bel_new HB1 _) _)⟩
    · exact ⟨_, _, rfl, rfl, by omega, by omega, by omega, blk_drew (blk_alloc (blk_alloc B0 _) _), blk_drew (blk_new2 _ _ _ _), blk_drew (blk_alloc (blk_new _ _ _) _), bel_draw1 (bel_new (bel_new HB1 _) _)⟩
  case rest =>
    obtain ⟨bh, bk, rfl, rfl, n1, n2, n3, B1, B2, B3, HB⟩ := hcut
    clear hc1 hf1 hb1 B0 HB1
    have x0 := blk_cell B2 0
    have x1 := blk_cell B2 1
    have x2 := blk_cell B3 0
    simp at x0 x1 x2
    have f1 := blk_froz B2 1
    have f2 := blk_froz B3 0
    have f3 : (wc.setCell ⟨bh, 1, none⟩ (.int .i64 (s + 1))).frozen? ⟨bk, 0, none⟩ = false := blk_froz (blk_far B3 (p := ⟨bh, 1, none⟩) n1 _) 0
    go_wp2_with fail
    generalize hW : (wc.setCell ⟨bh, 1, none⟩ (.int .i64 (s + 1))).setCell ⟨bk, 0, none⟩ (.int .i64 (p + 1)) = w2
    have C1 : Blk w2 w.heap.size 23 #[.int .i64 p, .int .i64 s, .int .i64 l, .int .i64 f] := by subst hW; exact blk_far (blk_far B1 (by simp; omega) _) (by simp; omega) _
    have C2 : Blk w2 bh 23 #[.int .i64 p, .int .i64 (s + 1), .int .i64 l, .int .i64 f] := by subst hW; exact blk_far (blk_set B2 1 _) (by simp; omega) _
    have C3 : Blk w2 bk 23 #[.int .i64 (p + 1), .int .i64 s, .int .i64 l, .int .i64 f] := by subst hW; exact blk_set (blk_far B3 (by simp; omega) _) 0 _
    have HB2 : Below w.heap.size w w2 := by subst hW; exact bel_set (bel_set HB _ _ (by simp; omega)) _ _ (by simp; omega)
    clear hW B1 B2 B3 HB x0 x1 x2 f1 f2 f3
    have x0 := blk_cell C1 0
    have x1 := blk_cell C1 1
    have x2 := blk_cell C1 2
    have x3 := blk_cell C1 3
    have y0 := blk_cell C2 0
    have y1 := blk_cell C2 1
    have y2 := blk_cell C2 2
    have y3 := blk_cell C2 3
    have z0 := blk_cell C3 0
    have z1 := blk_cell C3 1
    have z2 := blk_cell C3 2
    have z3 := blk_cell C3 3
    simp at x0 x1 x2 x3 y0 y1 y2 y3 z0 z1 z2 z3
    clear C1 C2 C3
    have t1 := T1.out
    have t2 := T2.out
    have t4 := T4.out
    have t5 : IntKind.i64.wrap (4 + s * l + l) = 4 + s * l + l := i64_of _ (by omega) (by omega)
    have Xx0 := ext_cell x0
    have Xx1 := ext_cell x1
    have Xx2 := ext_cell x2
    have Xx3 := ext_cell x3
    have Xy0 := ext_cell y0
    have Xy1 := ext_cell y1
    have Xy2 := ext_cell y2
    have Xy3 := ext_cell y3
    have Xz0 := ext_cell z0
    have Xz1 := ext_cell z1
    have Xz2 := ext_cell z2
    have Xz3 := ext_cell z3
    refine wp_region_ext (by kernel_rfl) (by kernel_rfl) ?_
    repeat (go_big_quiet_step ((first | (go_at_call 17; exact (good17 _ _ _ _ _).mono fun e w9 h => ⟨h.1, ext_mk _ h.2⟩) | (go_at_call 19; exact (maps19 _ _ _ _ _).mono fun e w9 h => ⟨h.1, ext_mk _ h.2⟩) | (go_at_call 20; exact (total20 _ _ _ _ _).mono fun e w9 h => ⟨h.1, ext_mk _ h.2⟩) | (go_at_call 21; exact (cap21 _ _ _ _ _).mono fun e w9 h => ⟨h.1, ext_mk _ h.2⟩) | (go_at_call 18; exact (good18 _ _ _ _ _).mono fun e w9 h => ⟨h.1.trans (ret_bool HH.out), ext_mk _ h.2⟩) | (go_at_call 24; exact (wakes24 _).mono fun e w9 h => ⟨h.1, ext_mk _ h.2⟩))))
    refine wpQuiet_nil ?_
    rintro _ ⟨⟨w3, hbn⟩, rfl⟩
    clear Xx0 Xx1 Xx2 Xx3 Xy0 Xy1 Xy2 Xy3 Xz0 Xz1 Xz2 Xz3
    clear t1 t2 t3 t4 t5 T1 T2 T4
    have HB3 := bel_step HB2 hbn
    have x0 := bel_keep hbn x0
    have x1 := bel_keep hbn x1
    have x2 := bel_keep hbn x2
    have x3 := bel_keep hbn x3
    have y0 := bel_keep hbn y0
    have y1 := bel_keep hbn y1
    have y2 := bel_keep hbn y2
    have y3 := bel_keep hbn y3
    have z0 := bel_keep hbn z0
    have z1 := bel_keep hbn z1
    have z2 := bel_keep hbn z2
    have z3 := bel_keep hbn z3
    clear hbn HB2
    go_wp2_with fail
    refine (good18 _ _ _ _ _).mono ?_
    rintro e w4 ⟨rfl, hbn⟩
    have HB4 := bel_step HB3 hbn
    have x0 := bel_keep hbn x0
    have x1 := bel_keep hbn x1
    have x2 := bel_keep hbn x2
    have x3 := bel_keep hbn x3
    have y0 := bel_keep hbn y0
    have y1 := bel_keep hbn y1
    have y2 := bel_keep hbn y2
    have y3 := bel_keep hbn y3
    have z0 := bel_keep hbn z0
    have z1 := bel_keep hbn z1
    have z2 := bel_keep hbn z2
    have z3 := bel_keep hbn z3
    clear hbn HB3
    rw [HK.out]
    go_wp2_with fail
    have r2 : IntKind.i64.wrap (capV p s l f + 1) = capV p s l f + 1 := i64_of _ (by omega) (by omega)
    have r1 : IntKind.i64.wrap (p / 8 + 1) = p / 8 + 1 := i64_of _ (by omega) (by omega)
    have r3 : mapsV p s l f = p / 8 + 1 := by rw [U1.out]; omega
    have r4 := U2.out
    have r5 := U3.out
    have r6 := U4.out
    have r7 := U5.out
    clear U1 U2 U3 U4 U5 HK
    have Xx0 := ext_cell x0
    have Xx1 := ext_cell x1
    have Xx2 := ext_cell x2
    have Xx3 := ext_cell x3
    have Xy0 := ext_cell y0
    have Xy1 := ext_cell y1
    have Xy2 := ext_cell y2
    have Xy3 := ext_cell y3
    have Xz0 := ext_cell z0
    have Xz1 := ext_cell z1
    have Xz2 := ext_cell z2
    have Xz3 := ext_cell z3
    refine wp_region_ext (by kernel_rfl) (by kernel_rfl) ?_
    repeat (go_big_quiet_step ((first | (go_at_call 17; exact (good17 _ _ _ _ _).mono fun e w9 h => ⟨h.1, ext_mk _ h.2⟩) | (go_at_call 19; exact (maps19 _ _ _ _ _).mono fun e w9 h => ⟨h.1, ext_mk _ h.2⟩) | (go_at_call 20; exact (total20 _ _ _ _ _).mono fun e w9 h => ⟨h.1, ext_mk _ h.2⟩) | (go_at_call 21; exact (cap21 _ _ _ _ _).mono fun e w9 h => ⟨h.1, ext_mk _ h.2⟩) | (go_at_call 18; exact (good18 _ _ _ _ _).mono fun e w9 h => ⟨h.1.trans (ret_bool HH.out), ext_mk _ h.2⟩) | (go_at_call 24; exact (wakes24 _).mono fun e w9 h => ⟨h.1, ext_mk _ h.2⟩))))
    refine wpQuiet_nil ?_
    rintro _ ⟨⟨w5, hbn⟩, rfl⟩
    clear Xx0 Xx1 Xx2 Xx3 Xy0 Xy1 Xy2 Xy3 Xz0 Xz1 Xz2 Xz3
    have HB5 := bel_step HB4 hbn
    go_wp2_with fail
    go_ret
    exact ⟨rfl, HB5⟩

set_option maxRecDepth 100000 in
set_option maxHeartbeats 4000000 in
theorem planGrows_2 (p s l f : Int) (w : World) (hg : goodB p s l f = true) (hh : goodB p (s + 1) l f = true) (hk : goodB (p + 1) s l f = false) :
    Calls Try.prog 5 #[gv p s l f] w fun e w' => e = .returned (.bool true) ∧ Below w.heap.size w w' := by
  obtain ⟨h1, h2, h3, h4, h5, h6, h7, h8⟩ := goodB_iff.1 hg
  obtain ⟨hm3, hm4⟩ := mul_bd (by omega : 0 ≤ s) (by omega) (by omega : 0 ≤ l) (by omega)
  obtain ⟨t1, t2, t3, t4⟩ := good_seg hg hh
  have T1 := Lib.hid t1
  have T2 := Lib.hid t2
  have T4 := Lib.hid t4
  clear t1 t2 t4
  have HK := Lib.hid hk
  clear hk
  have HH := Lib.hid hh
  clear hh
  go_enter Try.func5, Try.ntmps5
  go_wp2_with fail
  refine (good18 p s l f _).mono ?_
  rintro e w1 ⟨rfl, hb1⟩
  obtain ⟨hc1, hf1⟩ := bcell hb1
  have hz1 := hb1.size
  simp at hz1
  have hl1 : w.heap.size < w1.heap.size := by omega
  rw [hg]
  clear hg
  go_wp2_with fail
  have B0 : Blk w1 w.heap.size 23 #[.int .i64 p, .int .i64 s, .int .i64 l, .int .i64 f] := blk_keep (blk_new w _ _) hb1
  have HB1 := bel_step (bel_box w _) hb1
  go_cut [3, 4] (fun s3 s4 wx => ∃ bh bk : Nat, s3 = .pointer (some ⟨bh, 0, none⟩) ∧ s4 = .pointer (some ⟨bk, 0, none⟩) ∧ bh ≠ bk ∧ w.heap.size < bh ∧ w.heap.size < bk ∧ Blk wx w.heap.size 23 #[.int .i64 p, .int .i64 s, .int .i64 l, .int .i64 f] ∧ Blk wx bh 23 #[.int .i64 p, .int .i64 s, .int .i64 l, .int .i64 f] ∧ Blk wx bk 23 #[.int .i64 p, .int .i64 s, .int .i64 l, .int .i64 f] ∧ Below w.heap.size w wx)
  case first =>
    go_region
    all_goals go_wp2_with fail
    all_goals go_meet
    · exact ⟨_, _, rfl, rfl, by omega, by omega, by omega, blk_drew (blk_alloc (blk_alloc B0 _) _), blk_drew (blk_alloc (blk_new _ _ _) _), blk_drew (blk_new2 _ _ _ _), bel_draw1 (bel_new (bel_new HB1 _) _)⟩
    · exact ⟨_, _, rfl, rfl, by omega, by omega, by omega, blk_drew (blk_alloc (blk_alloc B0 _) _), blk_drew (blk_new2 _ _ _ _), blk_drew (blk_alloc (blk_new _ _ _) _), bel_draw1 (bel_new (bel_new HB1 _) _)⟩
  case rest =>
    obtain ⟨bh, bk, rfl, rfl, n1, n2, n3, B1, B2, B3, HB⟩ := hcut
    clear hc1 hf1 hb1 B0 HB1
    have x0 := blk_cell B2 0
    have x1 := blk_cell B2 1
    have x2 := blk_cell B3 0
    simp at x0 x1 x2
    have f1 := blk_froz B2 1
    have f2 := blk_froz B3 0
    have f3 : (wc.setCell ⟨bh, 1, none⟩ (.int .i64 (s + 1))).frozen? ⟨bk, 0, none⟩ = false := blk_froz (blk_far B3 (p := ⟨bh, 1, none⟩) n1 _) 0
    go_wp2_with fail
    generalize hW : (wc.setCell ⟨bh, 1, none⟩ (.int .i64 (s + 1))).setCell ⟨bk, 0, none⟩ (.int .i64 (p + 1)) = w2
    have C1 : Blk w2 w.heap.size 23 #[.int .i64 p, .int .i64 s, .int .i64 l, .int .i64 f] := by subst hW; exact blk_far (blk_far B1 (by simp; omega) _) (by simp; omega) _
    have C2 : Blk w2 bh 23 #[.int .i64 p, .int .i64 (s + 1), .int .i64 l, .int .i64 f] := by subst hW; exact blk_far (blk_set B2 1 _) (by simp; omega) _
    have C3 : Blk w2 bk 23 #[.int .i64 (p + 1), .int .i64 s, .int .i64 l, .int .i64 f] := by subst hW; exact blk_set (blk_far B3 (by simp; omega) _) 0 _
    have HB2 : Below w.heap.size w w2 := by subst hW; exact bel_set (bel_set HB _ _ (by simp; omega)) _ _ (by simp; omega)
    clear hW B1 B2 B3 HB x0 x1 x2 f1 f2 f3
    have x0 := blk_cell C1 0
    have x1 := blk_cell C1 1
    have x2 := blk_cell C1 2
    have x3 := blk_cell C1 3
    have y0 := blk_cell C2 0
    have y1 := blk_cell C2 1
    have y2 := blk_cell C2 2
    have y3 := blk_cell C2 3
    have z0 := blk_cell C3 0
    have z1 := blk_cell C3 1
    have z2 := blk_cell C3 2
    have z3 := blk_cell C3 3
    simp at x0 x1 x2 x3 y0 y1 y2 y3 z0 z1 z2 z3
    clear C1 C2 C3
    have t1 := T1.out
    have t2 := T2.out
    have t4 := T4.out
    have t5 : IntKind.i64.wrap (4 + s * l + l) = 4 + s * l + l := i64_of _ (by omega) (by omega)
    have Xx0 := ext_cell x0
    have Xx1 := ext_cell x1
    have Xx2 := ext_cell x2
    have Xx3 := ext_cell x3
    have Xy0 := ext_cell y0
    have Xy1 := ext_cell y1
    have Xy2 := ext_cell y2
    have Xy3 := ext_cell y3
    have Xz0 := ext_cell z0
    have Xz1 := ext_cell z1
    have Xz2 := ext_cell z2
    have Xz3 := ext_cell z3
    refine wp_region_ext (by kernel_rfl) (by kernel_rfl) ?_
    repeat (go_big_quiet_step ((first | (go_at_call 17; exact (good17 _ _ _ _ _).mono fun e w9 h => ⟨h.1, ext_mk _ h.2⟩) | (go_at_call 19; exact (maps19 _ _ _ _ _).mono fun e w9 h => ⟨h.1, ext_mk _ h.2⟩) | (go_at_call 20; exact (total20 _ _ _ _ _).mono fun e w9 h => ⟨h.1, ext_mk _ h.2⟩) | (go_at_call 21; exact (cap21 _ _ _ _ _).mono fun e w9 h => ⟨h.1, ext_mk _ h.2⟩) | (go_at_call 18; exact (good18 _ _ _ _ _).mono fun e w9 h => ⟨h.1.trans (ret_bool HH.out), ext_mk _ h.2⟩) | (go_at_call 24; exact (wakes24 _).mono fun e w9 h => ⟨h.1, ext_mk _ h.2⟩))))
    refine wpQuiet_nil ?_
    rintro _ ⟨⟨w3, hbn⟩, rfl⟩
    clear Xx0 Xx1 Xx2 Xx3 Xy0 Xy1 Xy2 Xy3 Xz0 Xz1 Xz2 Xz3
    clear t1 t2 t3 t4 t5 T1 T2 T4
    have HB3 := bel_step HB2 hbn
    have x0 := bel_keep hbn x0
    have x1 := bel_keep hbn x1
    have x2 := bel_keep hbn x2
    have x3 := bel_keep hbn x3
    have y0 := bel_keep hbn y0
    have y1 := bel_keep hbn y1
    have y2 := bel_keep hbn y2
    have y3 := bel_keep hbn y3
    have z0 := bel_keep hbn z0
    have z1 := bel_keep hbn z1
    have z2 := bel_keep hbn z2
    have z3 := bel_keep hbn z3
    clear hbn HB2
    go_wp2_with fail
    refine (good18 _ _ _ _ _).mono ?_
    rintro e w4 ⟨rfl, hbn⟩
    have HB4 := bel_step HB3 hbn
    have x0 := bel_keep hbn x0
    have x1 := bel_keep hbn x1
    have x2 := bel_keep hbn x2
    have x3 := bel_keep hbn x3
    have y0 := bel_keep hbn y0
    have y1 := bel_keep hbn y1
    have y2 := bel_keep hbn y2
    have y3 := bel_keep hbn y3
    have z0 := bel_keep hbn z0
    have z1 := bel_keep hbn z1
    have z2 := bel_keep hbn z2
    have z3 := bel_keep hbn z3
    clear hbn HB3
    rw [HK.out]
    go_wp2_with fail
    refine (wakes24 _).mono ?_
    rintro e wy ⟨rfl, hby⟩
    go_wp2_with fail
    go_ret
    exact ⟨rfl, bel_step HB4 hby⟩

set_option maxRecDepth 100000 in
set_option maxHeartbeats 4000000 in
theorem planGrows_4 (p s l f : Int) (w : World) (hg : goodB p s l f = true) (hh : goodB p (s + 1) l f = false) (hk : goodB (p + 1) s l f = true) (hp : p % 8 = 0) :
    Calls Try.prog 5 #[gv p s l f] w fun e w' => e = .returned (.bool true) ∧ Below w.heap.size w w' := by
  obtain ⟨h1, h2, h3, h4, h5, h6, h7, h8⟩ := goodB_iff.1 hg
  obtain ⟨hm3, hm4⟩ := mul_bd (by omega : 0 ≤ s) (by omega) (by omega : 0 ≤ l) (by omega)
  obtain ⟨u1, u2, u3, u4, u5, u6, u7⟩ := good_page hg hk
  have U1 := Lib.hid u1
  have U2 := Lib.hid u2
  have U3 := Lib.hid u3
  have U4 := Lib.hid u4
  have U5 := Lib.hid u5
  clear u1 u2 u3 u4 u5
  have hq : (p % 8 == 0) = true := by simp [hp]
  have HP := Lib.hid hp
  clear hp
  have HK := Lib.hid hk
  clear hk
  have HH := Lib.hid hh
  clear hh
  go_enter Try.func5, Try.ntmps5
  go_wp2_with fail
  refine (good18 p s l f _).mono ?_
  rintro e w1 ⟨rfl, hb1⟩
  obtain ⟨hc1, hf1⟩ := bcell hb1
  have hz1 := hb1.size
  simp at hz1
  have hl1 : w.heap.size < w1.heap.size := by omega
  rw [hg]
  clear hg
  go_wp2_with fail
  have B0 : Blk w1 w.heap.size 23 #[.int .i64 p, .int .i64 s, .int .i64 l, .int .i64 f] := blk_keep (blk_new w _ _) hb1
  have HB1 := bel_step (bel_box w _) hb1
  go_cut [3, 4] (fun s3 s4 wx => ∃ bh bk : Nat, s3 = .pointer (some ⟨bh, 0, none⟩) ∧ s4 = .pointer (some ⟨bk, 0, none⟩) ∧ bh ≠ bk ∧ w.heap.size < bh ∧ w.heap.size < bk ∧ Blk wx w.heap.size 23 #[.int .i64 p, .int .i64 s, .int .i64 l, .int .i64 f] ∧ Blk wx bh 23 #[.int .i64 p, .int .i64 s, .int .i64 l, .int .i64 f] ∧ Blk wx bk 23 #[.int .i64 p, .int .i64 s, .int .i64 l, .int .i64 f] ∧ Below w.heap.size w wx)
  case first =>
    go_region
    all_goals go_wp2_with fail
    all_goals go_meet
    · exact ⟨_, _, rfl, rfl, by omega, by omega, by omega, blk_drew (blk_alloc (blk_alloc B0 _) _), blk_drew (blk_alloc (blk_new _ _ _) _), blk_drew (blk_new2 _ _ _ _), bel_draw1 (bel_new (bel_new HB1 _) _)⟩
    · exact ⟨_, _, rfl, rfl, by omega, by omega, by omega, blk_drew (blk_alloc (blk_alloc B0 _) _), blk_drew (blk_new2 _ _ _ _), blk_drew (blk_alloc (blk_new _ _ _) _), bel_draw1 (bel_new (bel_new HB1 _) _)⟩
  case rest =>
    obtain ⟨bh, bk, rfl, rfl, n1, n2, n3, B1, B2, B3, HB⟩ := hcut
    clear hc1 hf1 hb1 B0 HB1
    have x0 := blk_cell B2 0
    have x1 := blk_cell B2 1
    have x2 := blk_cell B3 0
    simp at x0 x1 x2
    have f1 := blk_froz B2 1
    have f2 := blk_froz B3 0
    have f3 : (wc.setCell ⟨bh, 1, none⟩ (.int .i64 (s + 1))).frozen? ⟨bk, 0, none⟩ = false := blk_froz (blk_far B3 (p := ⟨bh, 1, none⟩) n1 _) 0
    go_wp2_with fail
    generalize hW : (wc.setCell ⟨bh, 1, none⟩ (.int .i64 (s + 1))).setCell ⟨bk, 0, none⟩ (.int .i64 (p + 1)) = w2
    have C1 : Blk w2 w.heap.size 23 #[.int .i64 p, .int .i64 s, .int .i64 l, .int .i64 f] := by subst hW; exact blk_far (blk_far B1 (by simp; omega) _) (by simp; omega) _
    have C2 : Blk w2 bh 23 #[.int .i64 p, .int .i64 (s + 1), .int .i64 l, .int .i64 f] := by subst hW; exact blk_far (blk_set B2 1 _) (by simp; omega) _
    have C3 : Blk w2 bk 23 #[.int .i64 (p + 1), .int .i64 s, .int .i64 l, .int .i64 f] := by subst hW; exact blk_set (blk_far B3 (by simp; omega) _) 0 _
    have HB2 : Below w.heap.size w w2 := by subst hW; exact bel_set (bel_set HB _ _ (by simp; omega)) _ _ (by simp; omega)
    clear hW B1 B2 B3 HB x0 x1 x2 f1 f2 f3
    have x0 := blk_cell C1 0
    have x1 := blk_cell C1 1
    have x2 := blk_cell C1 2
    have x3 := blk_cell C1 3
    have y0 := blk_cell C2 0
    have y1 := blk_cell C2 1
    have y2 := blk_cell C2 2
    have y3 := blk_cell C2 3
    have z0 := blk_cell C3 0
    have z1 := blk_cell C3 1
    have z2 := blk_cell C3 2
    have z3 := blk_cell C3 3
    simp at x0 x1 x2 x3 y0 y1 y2 y3 z0 z1 z2 z3
    clear C1 C2 C3
    have Xx0 := ext_cell x0
    have Xx1 := ext_cell x1
    have Xx2 := ext_cell x2
    have Xx3 := ext_cell x3
    have Xy0 := ext_cell y0
    have Xy1 := ext_cell y1
    have Xy2 := ext_cell y2
    have Xy3 := ext_cell y3
    have Xz0 := ext_cell z0
    have Xz1 := ext_cell z1
    have Xz2 := ext_cell z2
    have Xz3 := ext_cell z3
    refine wp_region_ext (by kernel_rfl) (by kernel_rfl) ?_
    repeat (go_big_quiet_step ((first | (go_at_call 17; exact (good17 _ _ _ _ _).mono fun e w9 h => ⟨h.1, ext_mk _ h.2⟩) | (go_at_call 19; exact (maps19 _ _ _ _ _).mono fun e w9 h => ⟨h.1, ext_mk _ h.2⟩) | (go_at_call 20; exact (total20 _ _ _ _ _).mono fun e w9 h => ⟨h.1, ext_mk _ h.2⟩) | (go_at_call 21; exact (cap21 _ _ _ _ _).mono fun e w9 h => ⟨h.1, ext_mk _ h.2⟩) | (go_at_call 18; exact (good18 _ _ _ _ _).mono fun e w9 h => ⟨h.1.trans (ret_bool HH.out), ext_mk _ h.2⟩) | (go_at_call 24; exact (wakes24 _).mono fun e w9 h => ⟨h.1, ext_mk _ h.2⟩))))
    refine wpQuiet_nil ?_
    rintro _ ⟨⟨w3, hbn⟩, rfl⟩
    clear Xx0 Xx1 Xx2 Xx3 Xy0 Xy1 Xy2 Xy3 Xz0 Xz1 Xz2 Xz3
    have HB3 := bel_step HB2 hbn
    have x0 := bel_keep hbn x0
    have x1 := bel_keep hbn x1
    have x2 := bel_keep hbn x2
    have x3 := bel_keep hbn x3
    have y0 := bel_keep hbn y0
    have y1 := bel_keep hbn y1
    have y2 := bel_keep hbn y2
    have y3 := bel_keep hbn y3
    have z0 := bel_keep hbn z0
    have z1 := bel_keep hbn z1
    have z2 := bel_keep hbn z2
    have z3 := bel_keep hbn z3
    clear hbn HB2
    go_wp2_with fail
    refine (good18 _ _ _ _ _).mono ?_
    rintro e w4 ⟨rfl, hbn⟩
    have HB4 := bel_step HB3 hbn
    have x0 := bel_keep hbn x0
    have x1 := bel_keep hbn x1
    have x2 := bel_keep hbn x2
    have x3 := bel_keep hbn x3
    have y0 := bel_keep hbn y0
    have y1 := bel_keep hbn y1
    have y2 := bel_keep hbn y2
    have y3 := bel_keep hbn y3
    have z0 := bel_keep hbn z0
    have z1 := bel_keep hbn z1
    have z2 := bel_keep hbn z2
    have z3 := bel_keep hbn z3
    clear hbn HB3
    rw [HK.out]
    go_wp2_with fail
    have r2 : IntKind.i64.wrap (capV p s l f + 1) = capV p s l f + 1 := i64_of _ (by omega) (by omega)
    have r1 : IntKind.i64.wrap (p / 8 + 1) = p / 8 + 1 := i64_of _ (by omega) (by omega)
    have r3 : mapsV p s l f = p / 8 := by rw [U1.out]; have := HP.out; omega
    have r4 := U2.out
    have r5 := U3.out
    have r6 := U4.out
    have r7 := U5.out
    clear U1 U2 U3 U4 U5 HK
    have Xx0 := ext_cell x0
    have Xx1 := ext_cell x1
    have Xx2 := ext_cell x2
    have Xx3 := ext_cell x3
    have Xy0 := ext_cell y0
    have Xy1 := ext_cell y1
    have Xy2 := ext_cell y2
    have Xy3 := ext_cell y3
    have Xz0 := ext_cell z0
    have Xz1 := ext_cell z1
    have Xz2 := ext_cell z2
    have Xz3 := ext_cell z3
    refine wp_region_ext (by kernel_rfl) (by kernel_rfl) ?_
    repeat (go_big_quiet_step ((first | (go_at_call 17; exact (good17 _ _ _ _ _).mono fun e w9 h => ⟨h.1, ext_mk _ h.2⟩) | (go_at_call 19; exact (maps19 _ _ _ _ _).mono fun e w9 h => ⟨h.1, ext_mk _ h.2⟩) | (go_at_call 20; exact (total20 _ _ _ _ _).mono fun e w9 h => ⟨h.1, ext_mk _ h.2⟩) | (go_at_call 21; exact (cap21 _ _ _ _ _).mono fun e w9 h => ⟨h.1, ext_mk _ h.2⟩) | (go_at_call 18; exact (good18 _ _ _ _ _).mono fun e w9 h => ⟨h.1.trans (ret_bool HH.out), ext_mk _ h.2⟩) | (go_at_call 24; exact (wakes24 _).mono fun e w9 h => ⟨h.1, ext_mk _ h.2⟩))))
    refine wpQuiet_nil ?_
    rintro _ ⟨⟨w5, hbn⟩, rfl⟩
    clear Xx0 Xx1 Xx2 Xx3 Xy0 Xy1 Xy2 Xy3 Xz0 Xz1 Xz2 Xz3
    have HB5 := bel_step HB4 hbn
    go_wp2_with fail
    go_ret
    exact ⟨rfl, HB5⟩

set_option maxRecDepth 100000 in
set_option maxHeartbeats 4000000 in
theorem planGrows_5 (p s l f : Int) (w : World) (hg : goodB p s l f = true) (hh : goodB p (s + 1) l f = false) (hk : goodB (p + 1) s l f = true) (hp : ¬ p % 8 = 0) :
    Calls Try.prog 5 #[gv p s l f] w fun e w' => e = .returned (.bool true) ∧ Below w.heap.size w w' := by
  obtain ⟨h1, h2, h3, h4, h5, h6, h7, h8⟩ := goodB_iff.1 hg
  obtain ⟨hm3, hm4⟩ := mul_bd (by omega : 0 ≤ s) (by omega) (by omega : 0 ≤ l) (by omega)
  obtain ⟨u1, u2, u3, u4, u5, u6, u7⟩ := good_page hg hk
  have U1 := Lib.hid u1
  have U2 := Lib.hid u2
  have U3 := Lib.hid u3
  have U4 := Lib.hid u4
  have U5 := Lib.hid u5
  clear u1 u2 u3 u4 u5
  have hq : (p % 8 == 0) = false := by simp [hp]
  have HK := Lib.hid hk
  clear hk
  have HH := Lib.hid hh
  clear hh
  go_enter Try.func5, Try.ntmps5
  go_wp2_with fail
  refine (good18 p s l f _).mono ?_
  rintro e w1 ⟨rfl, hb1⟩
  obtain ⟨hc1, hf1⟩ := bcell hb1
  have hz1 := hb1.size
  simp at hz1
  have hl1 : w.heap.size < w1.heap.size := by omega
  rw [hg]
  clear hg
  go_wp2_with fail
  have B0 : Blk w1 w.heap.size 23 #[.int .i64 p, .int .i64 s, .int .i64 l, .int .i64 f] := blk_keep (blk_new w _ _) hb1
  have HB1 := bel_step (bel_box w _) hb1
  go_cut [3, 4] (fun s3 s4 wx => ∃ bh bk : Nat, s3 = .pointer (some ⟨bh, 0, none⟩) ∧ s4 = .pointer (some ⟨bk, 0, none⟩) ∧ bh ≠ bk ∧ w.heap.size < bh ∧ w.heap.size < bk ∧ Blk wx w.heap.size 23 #[.int .i64 p, .int .i64 s, .int .i64 l, .int .i64 f] ∧ Blk wx bh 23 #[.int .i64 p, .int .i64 s, .int .i64 l, .int .i64 f] ∧ Blk wx bk 23 #[.int .i64 p, .int .i64 s, .int .i64 l, .int .i64 f] ∧ Below w.heap.size w wx)
  case first =>
    go_region
    all_goals go_wp2_with fail
    all_goals go_meet
    · exact ⟨_, _, rfl, rfl, by omega, by omega, by omega, blk_drew (blk_alloc (blk_alloc B0 _) _), blk_drew (blk_alloc (blk_new _ _ _) _), blk_drew (blk_new2 _ _ _ _), bel_draw1 (bel_new (bel_new HB1 _) _)⟩
    · exact ⟨_, _, rfl, rfl, by omega, by omega, by omega, blk_drew (blk_alloc (blk_alloc B0 _) _), blk_drew (blk_new2 _ _ _ _), blk_drew (blk_alloc (blk_new _ _ _) _), bel_draw1 (bel_new (bel_new HB1 _) _)⟩
  case rest =>
    obtain ⟨bh, bk, rfl, rfl, n1, n2, n3, B1, B2, B3, HB⟩ := hcut
    clear hc1 hf1 hb1 B0 HB1
    have x0 := blk_cell B2 0
    have x1 := blk_cell B2 1
    have x2 := blk_cell B3 0
    simp at x0 x1 x2
    have f1 := blk_froz B2 1
    have f2 := blk_froz B3 0
    have f3 : (wc.setCell ⟨bh, 1, none⟩ (.int .i64 (s + 1))).frozen? ⟨bk, 0, none⟩ = false := blk_froz (blk_far B3 (p := ⟨bh, 1, none⟩) n1 _) 0
    go_wp2_with fail
    generalize hW : (wc.setCell ⟨bh, 1, none⟩ (.int .i64 (s + 1))).setCell ⟨bk, 0, none⟩ (.int .i64 (p + 1)) = w2
    have C1 : Blk w2 w.heap.size 23 #[.int .i64 p, .int .i64 s, .int .i64 l, .int .i64 f] := by subst hW; exact blk_far (blk_far B1 (by simp; omega) _) (by simp; omega) _
    have C2 : Blk w2 bh 23 #[.int .i64 p, .int .i64 (s + 1), .int .i64 l, .int .i64 f] := by subst hW; exact blk_far (blk_set B2 1 _) (by simp; omega) _
    have C3 : Blk w2 bk 23 #[.int .i64 (p + 1), .int .i64 s, .int .i64 l, .int .i64 f] := by subst hW; exact blk_set (blk_far B3 (by simp; omega) _) 0 _
    have HB2 : Below w.heap.size w w2 := by subst hW; exact bel_set (bel_set HB _ _ (by simp; omega)) _ _ (by simp; omega)
    clear hW B1 B2 B3 HB x0 x1 x2 f1 f2 f3
    have x0 := blk_cell C1 0
    have x1 := blk_cell C1 1
    have x2 := blk_cell C1 2
    have x3 := blk_cell C1 3
    have y0 := blk_cell C2 0
    have y1 := blk_cell C2 1
    have y2 := blk_cell C2 2
    have y3 := blk_cell C2 3
    have z0 := blk_cell C3 0
    have z1 := blk_cell C3 1
    have z2 := blk_cell C3 2
    have z3 := blk_cell C3 3
    simp at x0 x1 x2 x3 y0 y1 y2 y3 z0 z1 z2 z3
    clear C1 C2 C3
    have Xx0 := ext_cell x0
    have Xx1 := ext_cell x1
    have Xx2 := ext_cell x2
    have Xx3 := ext_cell x3
    have Xy0 := ext_cell y0
    have Xy1 := ext_cell y1
    have Xy2 := ext_cell y2
    have Xy3 := ext_cell y3
    have Xz0 := ext_cell z0
    have Xz1 := ext_cell z1
    have Xz2 := ext_cell z2
    have Xz3 := ext_cell z3
    refine wp_region_ext (by kernel_rfl) (by kernel_rfl) ?_
    repeat (go_big_quiet_step ((first | (go_at_call 17; exact (good17 _ _ _ _ _).mono fun e w9 h => ⟨h.1, ext_mk _ h.2⟩) | (go_at_call 19; exact (maps19 _ _ _ _ _).mono fun e w9 h => ⟨h.1, ext_mk _ h.2⟩) | (go_at_call 20; exact (total20 _ _ _ _ _).mono fun e w9 h => ⟨h.1, ext_mk _ h.2⟩) | (go_at_call 21; exact (cap21 _ _ _ _ _).mono fun e w9 h => ⟨h.1, ext_mk _ h.2⟩) | (go_at_call 18; exact (good18 _ _ _ _ _).mono fun e w9 h => ⟨h.1.trans (ret_bool HH.out), ext_mk _ h.2⟩) | (go_at_call 24; exact (wakes24 _).mono fun e w9 h => ⟨h.1, ext_mk _ h.2⟩))))
    refine wpQuiet_nil ?_
    rintro _ ⟨⟨w3, hbn⟩, rfl⟩
    clear Xx0 Xx1 Xx2 Xx3 Xy0 Xy1 Xy2 Xy3 Xz0 Xz1 Xz2 Xz3
    have HB3 := bel_step HB2 hbn
    have x0 := bel_keep hbn x0
    have x1 := bel_keep hbn x1
    have x2 := bel_keep hbn x2
    have x3 := bel_keep hbn x3
    have y0 := bel_keep hbn y0
    have y1 := bel_keep hbn y1
    have y2 := bel_keep hbn y2
    have y3 := bel_keep hbn y3
    have z0 := bel_keep hbn z0
    have z1 := bel_keep hbn z1
    have z2 := bel_keep hbn z2
    have z3 := bel_keep hbn z3
    clear hbn HB2
    go_wp2_with fail
    refine (good18 _ _ _ _ _).mono ?_
    rintro e w4 ⟨rfl, hbn⟩
    have HB4 := bel_step HB3 hbn
    have x0 := bel_keep hbn x0
    have x1 := bel_keep hbn x1
    have x2 := bel_keep hbn x2
    have x3 := bel_keep hbn x3
    have y0 := bel_keep hbn y0
    have y1 := bel_keep hbn y1
    have y2 := bel_keep hbn y2
    have y3 := bel_keep hbn y3
    have z0 := bel_keep hbn z0
    have z1 := bel_keep hbn z1
    have z2 := bel_keep hbn z2
    have z3 := bel_keep hbn z3
    clear hbn HB3
    rw [HK.out]
    go_wp2_with fail
    have r2 : IntKind.i64.wrap (capV p s l f + 1) = capV p s l f + 1 := i64_of _ (by omega) (by omega)
    have r1 : IntKind.i64.wrap (p / 8 + 1) = p / 8 + 1 := i64_of _ (by omega) (by omega)
    have r3 : mapsV p s l f = p / 8 + 1 := by rw [U1.out]; omega
    have r4 := U2.out
    have r5 := U3.out
    have r6 := U4.out
    have r7 := U5.out
    clear U1 U2 U3 U4 U5 HK
    have Xx0 := ext_cell x0
    have Xx1 := ext_cell x1
    have Xx2 := ext_cell x2
    have Xx3 := ext_cell x3
    have Xy0 := ext_cell y0
    have Xy1 := ext_cell y1
    have Xy2 := ext_cell y2
    have Xy3 := ext_cell y3
    have Xz0 := ext_cell z0
    have Xz1 := ext_cell z1
    have Xz2 := ext_cell z2
    have Xz3 := ext_cell z3
    refine wp_region_ext (by kernel_rfl) (by kernel_rfl) ?_
    repeat (go_big_quiet_step ((first | (go_at_call 17; exact (good17 _ _ _ _ _).mono fun e w9 h => ⟨h.1, ext_mk _ h.2⟩) | (go_at_call 19; exact (maps19 _ _ _ _ _).mono fun e w9 h => ⟨h.1, ext_mk _ h.2⟩) | (go_at_call 20; exact (total20 _ _ _ _ _).mono fun e w9 h => ⟨h.1, ext_mk _ h.2⟩) | (go_at_call 21; exact (cap21 _ _ _ _ _).mono fun e w9 h => ⟨h.1, ext_mk _ h.2⟩) | (go_at_call 18; exact (good18 _ _ _ _ _).mono fun e w9 h => ⟨h.1.trans (ret_bool HH.out), ext_mk _ h.2⟩) | (go_at_call 24; exact (wakes24 _).mono fun e w9 h => ⟨h.1, ext_mk _ h.2⟩))))
    refine wpQuiet_nil ?_
    rintro _ ⟨⟨w5, hbn⟩, rfl⟩
    clear Xx0 Xx1 Xx2 Xx3 Xy0 Xy1 Xy2 Xy3 Xz0 Xz1 Xz2 Xz3
    have HB5 := bel_step HB4 hbn
    go_wp2_with fail
    go_ret
    exact ⟨rfl, HB5⟩

set_option maxRecDepth 100000 in
set_option maxHeartbeats 4000000 in
theorem planGrows_6 (p s l f : Int) (w : World) (hg : goodB p s l f = true) (hh : goodB p (s + 1) l f = false) (hk : goodB (p + 1) s l f = false) :
    Calls Try.prog 5 #[gv p s l f] w fun e w' => e = .returned (.bool true) ∧ Below w.heap.size w w' := by
  obtain ⟨h1, h2, h3, h4, h5, h6, h7, h8⟩ := goodB_iff.1 hg
  obtain ⟨hm3, hm4⟩ := mul_bd (by omega : 0 ≤ s) (by omega) (by omega : 0 ≤ l) (by omega)
  have HK := Lib.hid hk
  clear hk
  have HH := Lib.hid hh
  clear hh
  go_enter Try.func5, Try.ntmps5
  go_wp2_with fail
  refine (good18 p s l f _).mono ?_
  rintro e w1 ⟨rfl, hb1⟩
  obtain ⟨hc1, hf1⟩ := bcell hb1
  have hz1 := hb1.size
  simp at hz1
  have hl1 : w.heap.size < w1.heap.size := by omega
  rw [hg]
  clear hg
  go_wp2_with fail
  have B0 : Blk w1 w.heap.size 23 #[.int .i64 p, .int .i64 s, .int .i64 l, .int .i64 f] := blk_keep (blk_new w _ _) hb1
  have HB1 := bel_step (bel_box w _) hb1
  go_cut [3, 4] (fun s3 s4 wx => ∃ bh bk : Nat, s3 = .pointer (some ⟨bh, 0, none⟩) ∧ s4 = .pointer (some ⟨bk, 0, none⟩) ∧ bh ≠ bk ∧ w.heap.size < bh ∧ w.heap.size < bk ∧ Blk wx w.heap.size 23 #[.int .i64 p, .int .i64 s, .int .i64 l, .int .i64 f] ∧ Blk wx bh 23 #[.int .i64 p, .int .i64 s, .int .i64 l, .int .i64 f] ∧ Blk wx bk 23 #[.int .i64 p, .int .i64 s, .int .i64 l, .int .i64 f] ∧ Below w.heap.size w wx)
  case first =>
    go_region
    all_goals go_wp2_with fail
    all_goals go_meet
    · exact ⟨_, _, rfl, rfl, by omega, by omega, by omega, blk_drew (blk_alloc (blk_alloc B0 _) _), blk_drew (blk_alloc (blk_new _ _ _) _), blk_drew (blk_new2 _ _ _ _), bel_draw1 (bel_new (bel_new HB1 _) _)⟩
    · exact ⟨_, _, rfl, rfl, by omega, by omega, by omega, blk_drew (blk_alloc (blk_alloc B0 _) _), blk_drew (blk_new2 _ _ _ _), blk_drew (blk_alloc (blk_new _ _ _) _), bel_draw1 (bel_new (bel_new HB1 _) _)⟩
  case rest =>
    obtain ⟨bh, bk, rfl, rfl, n1, n2, n3, B1, B2, B3, HB⟩ := hcut
    clear hc1 hf1 hb1 B0 HB1
    have x0 := blk_cell B2 0
    have x1 := blk_cell B2 1
    have x2 := blk_cell B3 0
    simp at x0 x1 x2
    have f1 := blk_froz B2 1
    have f2 := blk_froz B3 0
    have f3 : (wc.setCell ⟨bh, 1, none⟩ (.int .i64 (s + 1))).frozen? ⟨bk, 0, none⟩ = false := blk_froz (blk_far B3 (p := ⟨bh, 1, none⟩) n1 _) 0
    go_wp2_with fail
    generalize hW : (wc.setCell ⟨bh, 1, none⟩ (.int .i64 (s + 1))).setCell ⟨bk, 0, none⟩ (.int .i64 (p + 1)) = w2
    have C1 : Blk w2 w.heap.size 23 #[.int .i64 p, .int .i64 s, .int .i64 l, .int .i64 f] := by subst hW; exact blk_far (blk_far B1 (by simp; omega) _) (by simp; omega) _
    have C2 : Blk w2 bh 23 #[.int .i64 p, .int .i64 (s + 1), .int .i64 l, .int .i64 f] := by subst hW; exact blk_far (blk_set B2 1 _) (by simp; omega) _
    have C3 : Blk w2 bk 23 #[.int .i64 (p + 1), .int .i64 s, .int .i64 l, .int .i64 f] := by subst hW; exact blk_set (blk_far B3 (by simp; omega) _) 0 _
    have HB2 : Below w.heap.size w w2 := by subst hW; exact bel_set (bel_set HB _ _ (by simp; omega)) _ _ (by simp; omega)
    clear hW B1 B2 B3 HB x0 x1 x2 f1 f2 f3
    have x0 := blk_cell C1 0
    have x1 := blk_cell C1 1
    have x2 := blk_cell C1 2
    have x3 := blk_cell C1 3
    have y0 := blk_cell C2 0
    have y1 := blk_cell C2 1
    have y2 := blk_cell C2 2
    have y3 := blk_cell C2 3
    have z0 := blk_cell C3 0
    have z1 := blk_cell C3 1
    have z2 := blk_cell C3 2
    have z3 := blk_cell C3 3
    simp at x0 x1 x2 x3 y0 y1 y2 y3 z0 z1 z2 z3
    clear C1 C2 C3
    have Xx0 := ext_cell x0
    have Xx1 := ext_cell x1
    have Xx2 := ext_cell x2
    have Xx3 := ext_cell x3
    have Xy0 := ext_cell y0
    have Xy1 := ext_cell y1
    have Xy2 := ext_cell y2
    have Xy3 := ext_cell y3
    have Xz0 := ext_cell z0
    have Xz1 := ext_cell z1
    have Xz2 := ext_cell z2
    have Xz3 := ext_cell z3
    refine wp_region_ext (by kernel_rfl) (by kernel_rfl) ?_
    repeat (go_big_quiet_step ((first | (go_at_call 17; exact (good17 _ _ _ _ _).mono fun e w9 h => ⟨h.1, ext_mk _ h.2⟩) | (go_at_call 19; exact (maps19 _ _ _ _ _).mono fun e w9 h => ⟨h.1, ext_mk _ h.2⟩) | (go_at_call 20; exact (total20 _ _ _ _ _).mono fun e w9 h => ⟨h.1, ext_mk _ h.2⟩) | (go_at_call 21; exact (cap21 _ _ _ _ _).mono fun e w9 h => ⟨h.1, ext_mk _ h.2⟩) | (go_at_call 18; exact (good18 _ _ _ _ _).mono fun e w9 h => ⟨h.1.trans (ret_bool HH.out), ext_mk _ h.2⟩) | (go_at_call 24; exact (wakes24 _).mono fun e w9 h => ⟨h.1, ext_mk _ h.2⟩))))
    refine wpQuiet_nil ?_
    rintro _ ⟨⟨w3, hbn⟩, rfl⟩
    clear Xx0 Xx1 Xx2 Xx3 Xy0 Xy1 Xy2 Xy3 Xz0 Xz1 Xz2 Xz3
    have HB3 := bel_step HB2 hbn
    have x0 := bel_keep hbn x0
    have x1 := bel_keep hbn x1
    have x2 := bel_keep hbn x2
    have x3 := bel_keep hbn x3
    have y0 := bel_keep hbn y0
    have y1 := bel_keep hbn y1
    have y2 := bel_keep hbn y2
    have y3 := bel_keep hbn y3
    have z0 := bel_keep hbn z0
    have z1 := bel_keep hbn z1
    have z2 := bel_keep hbn z2
    have z3 := bel_keep hbn z3
    clear hbn HB2
    go_wp2_with fail
    refine (good18 _ _ _ _ _).mono ?_
    rintro e w4 ⟨rfl, hbn⟩
    have HB4 := bel_step HB3 hbn
    have x0 := bel_keep hbn x0
    have x1 := bel_keep hbn x1
    have x2 := bel_keep hbn x2
    have x3 := bel_keep hbn x3
    have y0 := bel_keep hbn y0
    have y1 := bel_keep hbn y1
    have y2 := bel_keep hbn y2
    have y3 := bel_keep hbn y3
    have z0 := bel_keep hbn z0
    have z1 := bel_keep hbn z1
    have z2 := bel_keep hbn z2
    have z3 := bel_keep hbn z3
    clear hbn HB3
    rw [HK.out]
    go_wp2_with fail
    refine (wakes24 _).mono ?_
    rintro e wy ⟨rfl, hby⟩
    go_wp2_with fail
    go_ret
    exact ⟨rfl, bel_step HB4 hby⟩

theorem planGrows (p s l f : Int) (w : World) :
    Calls Try.prog 5 #[gv p s l f] w fun e w' => e = .returned (.bool true) ∧ Below w.heap.size w w' := by
  rcases Bool.eq_false_or_eq_true (goodB p s l f) with hg | hg
  · rcases Bool.eq_false_or_eq_true (goodB p (s + 1) l f) with hh | hh
    · rcases Bool.eq_false_or_eq_true (goodB (p + 1) s l f) with hk | hk
      · by_cases hp : p % 8 = 0
        · exact planGrows_0 p s l f w hg hh hk hp
        · exact planGrows_1 p s l f w hg hh hk hp
      · exact planGrows_2 p s l f w hg hh hk
    · rcases Bool.eq_false_or_eq_true (goodB (p + 1) s l f) with hk | hk
      · by_cases hp : p % 8 = 0
        · exact planGrows_4 p s l f w hg hh hk hp
        · exact planGrows_5 p s l f w hg hh hk hp
      · exact planGrows_6 p s l f w hg hh hk
  · exact planGrows_no p s l f w hg

end Go.Proofs.Ytecjccjgcdnpnaa
