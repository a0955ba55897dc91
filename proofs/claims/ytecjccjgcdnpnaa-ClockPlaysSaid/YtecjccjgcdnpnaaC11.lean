/- The law ClockPlays holds of every number and every list of steps. -/
import Derived.Test.YtecjccjgcdnpnaaRf
import Derived.OpenShut
import Derived.BigQuiet
import Derived.Deep.RegionHeld3
namespace Go.Proofs.Ytecjccjgcdnpnaa
open Go.RowKit
set_option linter.unusedSimpArgs false
set_option linter.unusedVariables false

theorem rds_cell3 {w : World} {b o k : Nat} {xs : List St} {x : St} (h : RdS w (some ⟨b, o, none⟩) xs) (hk : xs[k]? = some x) : w.cell? ⟨b, o + k * 3, none⟩ = some (.int .i64 x.kind) ∧ w.cell? ⟨b, o + k * 3 + 1, none⟩ = some (.int .i64 x.frame) ∧ w.cell? ⟨b, o + k * 3 + 2, none⟩ = some (.int .i64 x.key) := by
  rcases h with h | ⟨b', o', hA, h⟩
  · subst h; simp at hk
  · injection hA with hA
    injection hA with e1 e2
    subst e1 e2
    exact h k x hk

set_option maxRecDepth 100000 in
set_option maxHeartbeats 1000000 in
theorem plays_big (a : Int) (A : Option Addr) (n c : Nat) (w : World) (hn : 200 < n) :
    Calls Try.prog 11 #[.int .i64 a, .slice A n c] w fun e w' => e = .returned (.bool true) ∧ Below w.heap.size w w' := by
  go_enter Try.func11, Try.ntmps11
  go_wp2_with fail
  refine (wakes33 _).mono ?_
  rintro e w2 ⟨rfl, hb⟩
  go_wp2_with fail
  go_ret
  exact ⟨rfl, hb⟩

set_option maxRecDepth 100000 in
set_option maxHeartbeats 4000000 in
theorem plays_bad (a : Int) (A : Option Addr) (n c : Nat) (w : World) (hn : n ≤ 200) (ha : a < 1 ∨ 16 < a) :
    Calls Try.prog 11 #[.int .i64 a, .slice A n c] w fun e w' => e = .returned (.bool true) ∧ Below w.heap.size w w' := by
  have H := Lib.hid ha
  clear ha
  go_enter Try.func11, Try.ntmps11
  go_wp2_with fail
  refine (new32_bad a _ H.out).mono ?_
  rintro e w2 ⟨rfl, rfl⟩
  go_wp2_with fail
  refine (new42_bad a _ H.out).mono ?_
  rintro e w2 ⟨rfl, rfl⟩
  go_wp2_with fail
  go_loopg [9] 0 (fun gk s9 wr => s9 = .int .i64 0 ∧ wr = w2)
  case atStart => exact ⟨rfl, rfl⟩
  case round =>
    obtain ⟨rfl, rfl⟩ := hrel
    by_cases hz : 0 < n
    · have e1 : decide ((0 : Int) < (n : Int)) = true := decide_eq_true (by omega)
      go_wp2_with fail
      refine (wakes33 _).mono ?_
      rintro e w2 ⟨rfl, hb⟩
      go_wp2_with fail
      go_ret
      exact ⟨rfl, hb⟩
    · have e1 : decide ((0 : Int) < (n : Int)) = false := decide_eq_false (by omega)
      go_wp2_with fail
      refine (wakes33 _).mono ?_
      rintro e w2 ⟨rfl, hb⟩
      go_wp2_with fail
      go_ret
      exact ⟨rfl, hb⟩

/-- The state of both clocks behind a part of a round. -/
def CSt (w : World) (N cb fb qb gb cap m : Nat) (fr : List Fr) (hand : Nat) (wx : World) : Prop :=
  fr.length = N ∧ RInv fr m ∧ hand < N ∧ CA wx cb fb fr hand ∧ RA wx qb gb cap fr hand ∧ Below w.heap.size w wx

def kOr (k : Int) (o : Option Nat) : Int := if k = 0 ∨ k = 1 then orM o else 0

set_option maxRecDepth 100000 in
set_option maxHeartbeats 40000000 in
theorem plays_main (N : Nat) (A : Option Addr) (c : Nat) (xs : List St) (w : World) (h1 : 1 ≤ N) (h2 : N ≤ 16) (hx : RdS w A xs) (hn : xs.length ≤ 200) :
    Calls Try.prog 11 #[.int .i64 N, .slice A xs.length c] w fun e w' => e = .returned (.bool true) ∧ Below w.heap.size w w' := by
  have HX := Lib.hid hx
  clear hx
  go_enter Try.func11, Try.ntmps11
  go_wp2_with fail
  refine (new32 N _ h1 h2).mono ?_
  rintro e w1 ⟨cb, fb, rfl, HC, hcb, hfb, HB⟩
  have HC := Lib.hid HC
  go_wp2_with fail
  refine (new42 N _ h1 h2).mono ?_
  rintro e w2 ⟨qb, gb, cap, rfl, HR, hqb, hgb, HB2⟩
  have hs1 := HB.size
  have P0 : CSt w N cb fb qb gb cap 0 (List.replicate N ⟨-1, false, 0⟩) 0 w2 := ⟨by simp, rinv_new _ _, by omega, ca_keep HC.out HB2, HR, bel_step HB HB2⟩
  have hqb' : w.heap.size ≤ qb := by omega
  have hgb' : w.heap.size ≤ gb := by omega
  clear HC HR HB HB2 hs1 hqb hgb
  go_wp2_with fail
  go_loopg [9] xs.length (fun gk s9 wr => ∃ (j : Nat) (fr : List Fr) (hand : Nat), j ≤ xs.length ∧ gk = xs.length - j ∧ s9 = .int .i64 j ∧ CSt w N cb fb qb gb cap j fr hand wr)
  case atStart => exact ⟨0, _, 0, Nat.zero_le _, rfl, rfl, P0⟩
  case round =>
    clear P0
    obtain ⟨j, fr, hand, hj, hgk, rfl, hlen, RI, hhd, HC, HR, HB⟩ := hrel
    by_cases hlt : j < xs.length
    · obtain ⟨b, o, ⟨xk, xf, xy⟩, rfl, hxj, c0, c1, c2⟩ := rds_at (rds_keep HX.out HB) hlt
      dsimp only at c0 c1 c2
      have q0 : (0 : Int) ≤ (j : Int) := Int.natCast_nonneg _
      have q1 : (j : Int) < (xs.length : Int) := by omega
      have HL := Lib.hid hlen
      have HRI := Lib.hid RI
      have HCC := Lib.hid HC
      have HRR := Lib.hid HR
      clear hlen RI HC HR hxj
      go_upto_block 2 with fail
      obtain ⟨wx, hwx⟩ : ∃ wx, wx = wr.alloc (.cells #[.int .i64 xk, .int .i64 xf, .int .i64 xy] 52) := ⟨_, rfl⟩
      have BX := Lib.hid (show Blk wx wr.heap.size 52 #[.int .i64 xk, .int .i64 xf, .int .i64 xy] by rw [hwx]; exact blk_new wr 52 _)
      have HCX := Lib.hid (show CA wx cb fb fr hand by rw [hwx]; exact ca_keep HCC.out (bel_box wr _))
      have HRX := Lib.hid (show RA wx qb gb cap fr hand by rw [hwx]; exact ra_keep HRR.out (bel_box wr _))
      have HBX := Lib.hid (show Below w.heap.size w wx by rw [hwx]; exact bel_new HB _)
      have hz1 : ¬ wr.heap.size = cb := by have := (ca_lt HCC.out).1; omega
      have hz2 : ¬ wr.heap.size = fb := by have := (ca_lt HCC.out).2; omega
      have hz3 : ¬ wr.heap.size = qb := by have := (ra_lt HRR.out).1; omega
      have hz4 : ¬ wr.heap.size = gb := by have := (ra_lt HRR.out).2; omega
      rw [← hwx]
      clear HCC HRR hwx c0 c1 c2 HB
      generalize wr.heap.size = bx at *
      go_cut [11, 12, 13, 14, 15] (fun s11 s12 s13 s14 s15 wz => ∃ (fr' : List Fr) (hand' : Nat) (o : Option Nat) (p : Bool), s11 = .int .i64 ((o.getD 0 : Nat) : Int) ∧ s12 = .int .i64 (kOr xk o) ∧ s13 = .bool o.isSome ∧ s14 = .bool p ∧ s15 = .bool p ∧ CSt w N cb fb qb gb cap (j + 1) fr' hand' wz ∧ Blk wz bx 52 #[.int .i64 xk, .int .i64 xf, .int .i64 xy])
      case first => as_aux_lemma =>
        have x0 := blk_cell BX.out 0
        have x1 := blk_cell BX.out 1
        have x2 := blk_cell BX.out 2
        simp at x0 x1 x2
        by_cases hk0 : xk = 0
        · subst hk0
          obtain ⟨o, fr1, hand1, hv, RI1, hl1, hh1⟩ := victim_keep HRI.out (show hand < fr.length by rw [HL.out]; exact hhd)
          have h1 := victim34 cb fb fr hand wx HCX.out (by rw [HL.out]; exact hhd)
          have h2 := fun W (h : RA W qb gb cap fr hand) => victim43 qb gb cap fr hand j W h HRI.out (by rw [HL.out]; exact hhd)
          rw [hv] at h1 h2
          have H1 := Lib.hid h1
          have H2 := Lib.hid h2
          have HRI1 := Lib.hid RI1
          have HL1 := Lib.hid (hl1.trans HL.out)
          have hh2 : hand1 < N := by rw [← HL.out]; exact hh1
          clear h1 h2 hv RI1 hl1 hh1
          go_wp2_with fail
          refine (H1.out).mono ?_
          rintro e w3 ⟨rfl, HC3', HO⟩
          try dsimp only at HC3'
          have HR3 := Lib.hid (ra_only HCX.out HRX.out HO)
          have HC3 := Lib.hid HC3'
          have HB3 := Lib.hid (only_below HBX.out HO hcb hfb (Nat.le_refl _))
          have BX3 := Lib.hid (blk_only BX.out HO hz1 hz2)
          clear HC3' HO H1 x0 x1 x2
          have x0 := blk_cell BX3.out 0
          have x1 := blk_cell BX3.out 1
          have x2 := blk_cell BX3.out 2
          simp at x0 x1 x2
          go_wp2_with fail
          refine (H2.out _ HR3.out).mono ?_
          rintro e w4 ⟨rfl, HR4', HO⟩
          try dsimp only at HR4'
          have HC4 := Lib.hid (ca_only HC3.out HR3.out HO)
          have HR4 := Lib.hid HR4'
          have HB4 := Lib.hid (only_below HB3.out HO hqb' hgb' (Nat.le_refl _))
          have BX4 := Lib.hid (blk_only BX3.out HO hz3 hz4)
          clear HR4' HO H2 x0 x1 x2 HC3 HR3 HB3 BX3
          have x0 := blk_cell BX4.out 0
          have x1 := blk_cell BX4.out 1
          have x2 := blk_cell BX4.out 2
          simp at x0 x1 x2
          cases o with
          | none =>
            go_wp2_with fail
            go_meet
            exact ⟨fr1, hand1, none, false, rfl, rfl, rfl, rfl, rfl, ⟨HL1.out, rinv_mono HRI1.out (Nat.le_succ _), hh2, HC4.out, HR4.out, HB4.out⟩, BX4.out⟩
          | some v =>
            have e9 : decide (orM (some v) ≥ 0) = true := decide_eq_true (Int.natCast_nonneg v)
            have h1 := fun W (h : CA W cb fb fr1 hand1) => put36 cb fb fr1 hand1 (v : Int) xy W h
            have h2 := fun W (h : RA W qb gb cap fr1 hand1) => put44 qb gb cap fr1 hand1 j (v : Int) xy W h HRI1.out
            have H1 := Lib.hid h1
            have H2 := Lib.hid h2
            clear h1 h2
            obtain ⟨wy, hwy⟩ : ∃ wy, wy = w4 := ⟨_, rfl⟩
            subst hwy
            have HCY := HC4
            have HRY := HR4
            have HBY := HB4
            have BXY := BX4
            go_upto_region 18 with fail
            have HBd := bel_draw1 (Below.refl wy.heap.size wy)
            have HCd := Lib.hid (ca_keep HCY.out HBd)
            have HRd := Lib.hid (ra_keep HRY.out HBd)
            first
              | go_region_held3 (fun w' => w'.cell? ⟨bx, 2, none⟩ = some (.int .i64 xy) ∧ Below wy.heap.size wy wy.drew)
                  (first | (go_keep; done) | ((try go_split_ands); refine ⟨?_, ?_⟩ <;> (first | assumption | exact only_cell (by assumption) HO2 hz3 hz4 | exact only_cell (by assumption) HO1 hz1 hz2 | (go_keep; done))))
                  (first
                    | (go_at_call 36; refine (H1.out _ HCd.out).mono ?_; rintro e w8 ⟨rfl, HC8, HO1⟩)
                    | (go_at_call 44; refine (H2.out _ (ra_only HCd.out HRd.out HO1)).mono ?_; rintro e w9 ⟨rfl, HR9, HO2⟩))
              | fail
            go_split_ands
            try dsimp only at HC8 HR9
            have HC9 := Lib.hid (ca_only HC8 (ra_only HCd.out HRd.out HO1) HO2)
            have HR9' := Lib.hid HR9
            have HBe : Below wy.heap.size wy wy.drew := by assumption
            have HB9 := Lib.hid (only_below (only_below (bel_step HBY.out HBe) HO1 hcb hfb (Nat.le_refl _)) HO2 hqb' hgb' (Nat.le_refl _))
            have BX9 := Lib.hid (blk_only (blk_only (blk_keep BXY.out HBe) HO1 hz1 hz2) HO2 hz3 hz4)
            clear HC8 HR9 HO1 HO2 HBe
            go_wp2_with fail
            go_meet
            exact ⟨(putR fr1 v xy).2, hand1, some v, (putR fr1 v xy).1, rfl, rfl, rfl, rfl, rfl, ⟨(put_keep HRI1.out v xy).2.trans HL1.out, rinv_mono (put_keep HRI1.out v xy).1 (Nat.le_succ _), hh2, HC9.out, HR9'.out, HB9.out⟩, BX9.out⟩
        · have e0 : (xk == 0) = false := beq_eq_false_iff_ne.2 hk0
          by_cases hk1 : xk = 1
          · subst hk1
            have h1 := find35 cb fb fr hand xy wx HCX.out
            have h2 := fun W (h : RA W qb gb cap fr hand) => find45 qb gb cap fr hand xy W h
            cases hF : findR fr xy with
            | none =>
              rw [hF] at h1 h2
              have H1 := Lib.hid h1
              have H2 := Lib.hid h2
              have h4 := fun W (h : RA W qb gb cap fr hand) => touch47 qb gb cap fr hand j (-1) W h HRI.out
              rw [touch_neg] at h4
              have H4 := Lib.hid h4
              clear h1 h2 h4 hF
              go_wp2_with fail
              refine H1.out.mono ?_
              rintro e w3 ⟨rfl, hb⟩
              have HR3 := Lib.hid (ra_keep HRX.out hb)
              have HC3 := Lib.hid (ca_keep HCX.out hb)
              have HB3 := Lib.hid (bel_step HBX.out hb)
              have BX3 := Lib.hid (blk_keep BX.out hb)
              clear hb H1 x0 x1 x2
              have x0 := blk_cell BX3.out 0
              have x1 := blk_cell BX3.out 1
              have x2 := blk_cell BX3.out 2
              simp at x0 x1 x2
              go_wp2_with fail
              refine (H2.out _ HR3.out).mono ?_
              rintro e w3 ⟨rfl, rfl⟩
              go_wp2_with fail
              refine (H4.out _ HR3.out).mono ?_
              rintro e w4 ⟨rfl, HR4', HO⟩
              try dsimp only at HR4'
              have HC4 := Lib.hid (ca_only HC3.out HR3.out HO)
              have HR4 := Lib.hid HR4'
              have HB4 := Lib.hid (only_below HB3.out HO hqb' hgb' (Nat.le_refl _))
              have BX4 := Lib.hid (blk_only BX3.out HO hz3 hz4)
              clear HR4' HO H4 x0 x1 x2 HC3 HR3 HB3 BX3
              have x0 := blk_cell BX4.out 0
              have x1 := blk_cell BX4.out 1
              have x2 := blk_cell BX4.out 2
              simp at x0 x1 x2
              go_wp2_with fail
              go_meet
              exact ⟨fr, hand, none, false, rfl, rfl, rfl, rfl, rfl, ⟨HL.out, rinv_mono HRI.out (Nat.le_succ _), hhd, HC4.out, HR4.out, HB4.out⟩, BX4.out⟩
            | some v =>
              rw [hF] at h1 h2
              have H1 := Lib.hid h1
              have H2 := Lib.hid h2
              have h3 := fun W (h : CA W cb fb fr hand) => touch46 cb fb fr hand (v : Int) W h
              have h4 := fun W (h : RA W qb gb cap fr hand) => touch47 qb gb cap fr hand j (v : Int) W h HRI.out
              have H3 := Lib.hid h3
              have H4 := Lib.hid h4
              clear h1 h2 h3 h4 hF
              go_wp2_with fail
              refine H1.out.mono ?_
              rintro e w3 ⟨rfl, hb⟩
              have HR3 := Lib.hid (ra_keep HRX.out hb)
              have HC3 := Lib.hid (ca_keep HCX.out hb)
              have HB3 := Lib.hid (bel_step HBX.out hb)
              have BX3 := Lib.hid (blk_keep BX.out hb)
              clear hb H1 x0 x1 x2
              have x0 := blk_cell BX3.out 0
              have x1 := blk_cell BX3.out 1
              have x2 := blk_cell BX3.out 2
              simp at x0 x1 x2
              go_wp2_with fail
              refine (H2.out _ HR3.out).mono ?_
              rintro e w3 ⟨rfl, rfl⟩
              go_wp2_with fail
              refine (H3.out _ HC3.out).mono ?_
              rintro e w5 ⟨rfl, HC5', HO⟩
              try dsimp only at HC5'
              have HR5 := Lib.hid (ra_only HC3.out HR3.out HO)
              have HC5 := Lib.hid HC5'
              have HB5 := Lib.hid (only_below HB3.out HO hcb hfb (Nat.le_refl _))
              have BX5 := Lib.hid (blk_only BX3.out HO hz1 hz2)
              clear HC5' HO H3 x0 x1 x2 HR3 HC3 HB3 BX3
              have HR3 := HR5
              have HC3 := HC5
              have HB3 := HB5
              have BX3 := BX5
              clear HR5 HC5 HB5 BX5
              have x0 := blk_cell BX3.out 0
              have x1 := blk_cell BX3.out 1
              have x2 := blk_cell BX3.out 2
              simp at x0 x1 x2
              go_wp2_with fail
              refine (H4.out _ HR3.out).mono ?_
              rintro e w4 ⟨rfl, HR4', HO⟩
              try dsimp only at HR4'
              have HC4 := Lib.hid (ca_only HC3.out HR3.out HO)
              have HR4 := Lib.hid HR4'
              have HB4 := Lib.hid (only_below HB3.out HO hqb' hgb' (Nat.le_refl _))
              have BX4 := Lib.hid (blk_only BX3.out HO hz3 hz4)
              clear HR4' HO H4 x0 x1 x2 HC3 HR3 HB3 BX3
              have x0 := blk_cell BX4.out 0
              have x1 := blk_cell BX4.out 1
              have x2 := blk_cell BX4.out 2
              simp at x0 x1 x2
              go_wp2_with fail
              go_meet
              exact ⟨(touchR fr v).2, hand, some v, false, rfl, rfl, rfl, rfl, rfl, ⟨(touch_keep HRI.out v).2.trans HL.out, rinv_mono (touch_keep HRI.out v).1 (Nat.le_succ _), hhd, HC4.out, HR4.out, HB4.out⟩, BX4.out⟩
          · have e1 : (xk == 1) = false := beq_eq_false_iff_ne.2 hk1
            by_cases hk2 : xk = 2
            · subst hk2
              have h1 := fun W (h : CA W cb fb fr hand) => pin37 cb fb fr hand xf W h (rinv_mem HRI.out (show j ≤ 1000000 by omega))
              have h2 := fun W (h : RA W qb gb cap fr hand) => pin48 qb gb cap fr hand j xf W h HRI.out (by omega)
              have H1 := Lib.hid h1
              have H2 := Lib.hid h2
              clear h1 h2
              obtain ⟨wy, hwy⟩ : ∃ wy, wy = wx := ⟨_, rfl⟩
              subst hwy
              have HCY := HCX
              have HRY := HRX
              have HBY := HBX
              have BXY := BX
              go_upto_region 26 with fail
              have HBd := bel_draw1 (Below.refl wy.heap.size wy)
              have HCd := Lib.hid (ca_keep HCY.out HBd)
              have HRd := Lib.hid (ra_keep HRY.out HBd)
              first
                | go_region_held3 (fun w' => w'.cell? ⟨bx, 1, none⟩ = some (.int .i64 xf) ∧ Below wy.heap.size wy wy.drew)
                    (first | (go_keep; done) | ((try go_split_ands); refine ⟨?_, ?_⟩ <;> (first | assumption | exact only_cell (by assumption) HO2 hz3 hz4 | exact only_cell (by assumption) HO1 hz1 hz2 | (go_keep; done))))
                    (first
                      | (go_at_call 37; refine (H1.out _ HCd.out).mono ?_; rintro e w8 ⟨rfl, HC8, HO1⟩)
                      | (go_at_call 48; refine (H2.out _ (ra_only HCd.out HRd.out HO1)).mono ?_; rintro e w9 ⟨rfl, HR9, HO2⟩))
                | fail
              go_split_ands
              try dsimp only at HC8 HR9
              have HC9 := Lib.hid (ca_only HC8 (ra_only HCd.out HRd.out HO1) HO2)
              have HR9' := Lib.hid HR9
              have HBe : Below wy.heap.size wy wy.drew := by assumption
              have HB9 := Lib.hid (only_below (only_below (bel_step HBY.out HBe) HO1 hcb hfb (Nat.le_refl _)) HO2 hqb' hgb' (Nat.le_refl _))
              have BX9 := Lib.hid (blk_only (blk_only (blk_keep BXY.out HBe) HO1 hz1 hz2) HO2 hz3 hz4)
              clear HC8 HR9 HO1 HO2 HBe
              go_wp2_with fail
              go_meet
              exact ⟨(pinR fr xf).2, hand, none, (pinR fr xf).1, rfl, rfl, rfl, rfl, rfl, ⟨(pin_keep HRI.out xf).2.trans HL.out, (pin_keep HRI.out xf).1, hhd, HC9.out, HR9'.out, HB9.out⟩, BX9.out⟩
            · have e2 : (xk == 2) = false := beq_eq_false_iff_ne.2 hk2
              by_cases hk3 : xk = 3
              · subst hk3
                have h1 := fun W (h : CA W cb fb fr hand) => unpin38 cb fb fr hand xf W h (rinv_mem HRI.out (show j ≤ 1000000 by omega))
                have h2 := fun W (h : RA W qb gb cap fr hand) => unpin49 qb gb cap fr hand j xf W h HRI.out (by omega)
                have H1 := Lib.hid h1
                have H2 := Lib.hid h2
                clear h1 h2
                obtain ⟨wy, hwy⟩ : ∃ wy, wy = wx := ⟨_, rfl⟩
                subst hwy
                have HCY := HCX
                have HRY := HRX
                have HBY := HBX
                have BXY := BX
                go_upto_region 28 with fail
                have HBd := bel_draw1 (Below.refl wy.heap.size wy)
                have HCd := Lib.hid (ca_keep HCY.out HBd)
                have HRd := Lib.hid (ra_keep HRY.out HBd)
                first
                  | go_region_held3 (fun w' => w'.cell? ⟨bx, 1, none⟩ = some (.int .i64 xf) ∧ Below wy.heap.size wy wy.drew)
                      (first | (go_keep; done) | ((try go_split_ands); refine ⟨?_, ?_⟩ <;> (first | assumption | exact only_cell (by assumption) HO2 hz3 hz4 | exact only_cell (by assumption) HO1 hz1 hz2 | (go_keep; done))))
                      (first
                        | (go_at_call 38; refine (H1.out _ HCd.out).mono ?_; rintro e w8 ⟨rfl, HC8, HO1⟩)
                        | (go_at_call 49; refine (H2.out _ (ra_only HCd.out HRd.out HO1)).mono ?_; rintro e w9 ⟨rfl, HR9, HO2⟩))
                  | fail
                go_split_ands
                try dsimp only at HC8 HR9
                have HC9 := Lib.hid (ca_only HC8 (ra_only HCd.out HRd.out HO1) HO2)
                have HR9' := Lib.hid HR9
                have HBe : Below wy.heap.size wy wy.drew := by assumption
                have HB9 := Lib.hid (only_below (only_below (bel_step HBY.out HBe) HO1 hcb hfb (Nat.le_refl _)) HO2 hqb' hgb' (Nat.le_refl _))
                have BX9 := Lib.hid (blk_only (blk_only (blk_keep BXY.out HBe) HO1 hz1 hz2) HO2 hz3 hz4)
                clear HC8 HR9 HO1 HO2 HBe
                go_wp2_with fail
                go_meet
                exact ⟨(unpinR fr xf).2, hand, none, (unpinR fr xf).1, rfl, rfl, rfl, rfl, rfl, ⟨(unpin_keep HRI.out xf).2.trans HL.out, rinv_mono (unpin_keep HRI.out xf).1 (Nat.le_succ _), hhd, HC9.out, HR9'.out, HB9.out⟩, BX9.out⟩
              · have e3 : (xk == 3) = false := beq_eq_false_iff_ne.2 hk3
                by_cases hk4 : xk = 4
                · subst hk4
                  have h1 := fun W (h : CA W cb fb fr hand) => drop40 cb fb fr hand xf W h
                  have h2 := fun W (h : RA W qb gb cap fr hand) => drop50 qb gb cap fr hand j xf W h HRI.out
                  have H1 := Lib.hid h1
                  have H2 := Lib.hid h2
                  clear h1 h2
                  obtain ⟨wy, hwy⟩ : ∃ wy, wy = wx := ⟨_, rfl⟩
                  subst hwy
                  have HCY := HCX
                  have HRY := HRX
                  have HBY := HBX
                  have BXY := BX
                  go_upto_region 30 with fail
                  have HBd := bel_draw1 (Below.refl wy.heap.size wy)
                  have HCd := Lib.hid (ca_keep HCY.out HBd)
                  have HRd := Lib.hid (ra_keep HRY.out HBd)
                  first
                    | go_region_held3 (fun w' => w'.cell? ⟨bx, 1, none⟩ = some (.int .i64 xf) ∧ Below wy.heap.size wy wy.drew)
                        (first | (go_keep; done) | ((try go_split_ands); refine ⟨?_, ?_⟩ <;> (first | assumption | exact only_cell (by assumption) HO2 hz3 hz4 | exact only_cell (by assumption) HO1 hz1 hz2 | (go_keep; done))))
                        (first
                          | (go_at_call 40; refine (H1.out _ HCd.out).mono ?_; rintro e w8 ⟨rfl, HC8, HO1⟩)
                          | (go_at_call 50; refine (H2.out _ (ra_only HCd.out HRd.out HO1)).mono ?_; rintro e w9 ⟨rfl, HR9, HO2⟩))
                    | fail
                  go_split_ands
                  try dsimp only at HC8 HR9
                  have HC9 := Lib.hid (ca_only HC8 (ra_only HCd.out HRd.out HO1) HO2)
                  have HR9' := Lib.hid HR9
                  have HBe : Below wy.heap.size wy wy.drew := by assumption
                  have HB9 := Lib.hid (only_below (only_below (bel_step HBY.out HBe) HO1 hcb hfb (Nat.le_refl _)) HO2 hqb' hgb' (Nat.le_refl _))
                  have BX9 := Lib.hid (blk_only (blk_only (blk_keep BXY.out HBe) HO1 hz1 hz2) HO2 hz3 hz4)
                  clear HC8 HR9 HO1 HO2 HBe
                  go_wp2_with fail
                  go_meet
                  exact ⟨(dropR fr xf).2, hand, none, (dropR fr xf).1, rfl, rfl, rfl, rfl, rfl, ⟨(drop_keep HRI.out xf).2.trans HL.out, rinv_mono (drop_keep HRI.out xf).1 (Nat.le_succ _), hhd, HC9.out, HR9'.out, HB9.out⟩, BX9.out⟩
                · have e4 : (xk == 4) = false := beq_eq_false_iff_ne.2 hk4
                  by_cases hk5 : xk = 5
                  · subst hk5
                    have h1 := fun W (h : CA W cb fb fr hand) => put36 cb fb fr hand xf xy W h
                    have h2 := fun W (h : RA W qb gb cap fr hand) => put44 qb gb cap fr hand j xf xy W h HRI.out
                    have H1 := Lib.hid h1
                    have H2 := Lib.hid h2
                    clear h1 h2
                    obtain ⟨wy, hwy⟩ : ∃ wy, wy = wx := ⟨_, rfl⟩
                    subst hwy
                    have HCY := HCX
                    have HRY := HRX
                    have HBY := HBX
                    have BXY := BX
                    go_upto_region 32 with fail
                    have HBd := bel_draw1 (Below.refl wy.heap.size wy)
                    have HCd := Lib.hid (ca_keep HCY.out HBd)
                    have HRd := Lib.hid (ra_keep HRY.out HBd)
                    first
                      | go_region_held3 (fun w' => w'.cell? ⟨bx, 1, none⟩ = some (.int .i64 xf) ∧ w'.cell? ⟨bx, 2, none⟩ = some (.int .i64 xy) ∧ Below wy.heap.size wy wy.drew)
                          (first | (go_keep; done) | ((try go_split_ands); refine ⟨?_, ?_, ?_⟩ <;> (first | assumption | exact only_cell (by assumption) HO2 hz3 hz4 | exact only_cell (by assumption) HO1 hz1 hz2 | (go_keep; done))))
                          (first
                            | (go_at_call 36; refine (H1.out _ HCd.out).mono ?_; rintro e w8 ⟨rfl, HC8, HO1⟩)
                            | (go_at_call 44; refine (H2.out _ (ra_only HCd.out HRd.out HO1)).mono ?_; rintro e w9 ⟨rfl, HR9, HO2⟩))
                      | fail
                    go_split_ands
                    try dsimp only at HC8 HR9
                    have HC9 := Lib.hid (ca_only HC8 (ra_only HCd.out HRd.out HO1) HO2)
                    have HR9' := Lib.hid HR9
                    have HBe : Below wy.heap.size wy wy.drew := by assumption
                    have HB9 := Lib.hid (only_below (only_below (bel_step HBY.out HBe) HO1 hcb hfb (Nat.le_refl _)) HO2 hqb' hgb' (Nat.le_refl _))
                    have BX9 := Lib.hid (blk_only (blk_only (blk_keep BXY.out HBe) HO1 hz1 hz2) HO2 hz3 hz4)
                    clear HC8 HR9 HO1 HO2 HBe
                    go_wp2_with fail
                    go_meet
                    exact ⟨(putR fr xf xy).2, hand, none, (putR fr xf xy).1, rfl, rfl, rfl, rfl, rfl, ⟨(put_keep HRI.out xf xy).2.trans HL.out, rinv_mono (put_keep HRI.out xf xy).1 (Nat.le_succ _), hhd, HC9.out, HR9'.out, HB9.out⟩, BX9.out⟩
                  · have e5 : (xk == 5) = false := beq_eq_false_iff_ne.2 hk5
                    by_cases hk6 : xk = 6
                    · subst hk6
                      have h1 := touch46 cb fb fr hand xf wx HCX.out
                      have h2 := fun W (h : RA W qb gb cap fr hand) => touch47 qb gb cap fr hand j xf W h HRI.out
                      have H1 := Lib.hid h1
                      have H2 := Lib.hid h2
                      clear h1 h2
                      go_wp2_with fail
                      refine (H1.out).mono ?_
                      rintro e w3 ⟨rfl, HC3', HO⟩
                      try dsimp only at HC3'
                      have HR3 := Lib.hid (ra_only HCX.out HRX.out HO)
                      have HC3 := Lib.hid HC3'
                      have HB3 := Lib.hid (only_below HBX.out HO hcb hfb (Nat.le_refl _))
                      have BX3 := Lib.hid (blk_only BX.out HO hz1 hz2)
                      clear HC3' HO H1 x0 x1 x2
                      have x0 := blk_cell BX3.out 0
                      have x1 := blk_cell BX3.out 1
                      have x2 := blk_cell BX3.out 2
                      simp at x0 x1 x2
                      go_wp2_with fail
                      refine (H2.out _ HR3.out).mono ?_
                      rintro e w4 ⟨rfl, HR4', HO⟩
                      try dsimp only at HR4'
                      have HC4 := Lib.hid (ca_only HC3.out HR3.out HO)
                      have HR4 := Lib.hid HR4'
                      have HB4 := Lib.hid (only_below HB3.out HO hqb' hgb' (Nat.le_refl _))
                      have BX4 := Lib.hid (blk_only BX3.out HO hz3 hz4)
                      clear HR4' HO H2 x0 x1 x2 HC3 HR3 HB3 BX3
                      have x0 := blk_cell BX4.out 0
                      have x1 := blk_cell BX4.out 1
                      have x2 := blk_cell BX4.out 2
                      simp at x0 x1 x2
                      go_wp2_with fail
                      go_meet
                      exact ⟨(touchR fr xf).2, hand, none, false, rfl, rfl, rfl, rfl, rfl, ⟨(touch_keep HRI.out xf).2.trans HL.out, rinv_mono (touch_keep HRI.out xf).1 (Nat.le_succ _), hhd, HC4.out, HR4.out, HB4.out⟩, BX4.out⟩
                    · have e6 : (xk == 6) = false := beq_eq_false_iff_ne.2 hk6
                      have ek : kOr xk none = 0 := by unfold kOr; rw [if_neg]; omega
                      go_wp2_with fail
                      go_meet
                      exact ⟨fr, hand, none, false, rfl, by rw [ek], rfl, rfl, rfl, ⟨HL.out, rinv_mono HRI.out (Nat.le_succ _), hhd, HCX.out, HRX.out, HBX.out⟩, BX.out⟩
      case rest => as_aux_lemma =>
        obtain ⟨fr2, hand2, o2, p, rfl, rfl, rfl, rfl, rfl, ⟨hl2, RI2, hhd2, HC2', HR2', HB2'⟩, BX2'⟩ := hcut
        have HL2 := Lib.hid hl2
        have HRI2 := Lib.hid RI2
        have HC2 := Lib.hid HC2'
        have HR2 := Lib.hid HR2'
        have HB2 := Lib.hid HB2'
        have BX2 := Lib.hid BX2'
        clear hl2 RI2 HC2' HR2' HB2' BX2' HL HRI HCX HRX HBX BX
        have h51 := pinned51 cb fb fr2 hand2 wc HC2.out
        have h52 := fun W (h : RA W qb gb cap fr2 hand2) => pinned52 qb gb cap fr2 hand2 W h
        generalize (pinnedN fr2 : Int) = K at h51 h52
        have H51 := Lib.hid h51
        have H52 := Lib.hid h52
        clear h51 h52
        go_upto_region 36 with fail
        go_cut [199] (fun s wz => s = .bool false ∧ CSt w N cb fb qb gb cap (j + 1) fr2 hand2 wz)
        case first => as_aux_lemma =>
          have x0 := blk_cell BX2.out 0
          simp at x0
          have ep : (p != p) = false := by simp
          have eK : (K != K) = false := by simp
          by_cases hk0 : xk < 0
          · have e1 : decide (xk ≥ 0) = false := by simp; omega
            go_wp2_with fail
            refine H51.out.mono ?_
            rintro e w5 ⟨rfl, hb⟩
            have HR5 := Lib.hid (ra_keep HR2.out hb)
            have HC5 := Lib.hid (ca_keep HC2.out hb)
            have HB5 := Lib.hid (bel_step HB2.out hb)
            clear hb H51
            go_wp2_with fail
            refine (H52.out _ HR5.out).mono ?_
            rintro e w6 ⟨rfl, rfl⟩
            go_wp2_with fail
            go_meet
            exact ⟨rfl, HL2.out, HRI2.out, hhd2, HC5.out, HR5.out, HB5.out⟩
          · have e1 : decide (xk ≥ 0) = true := by simp; omega
            by_cases hk1 : xk ≤ 1
            · have e2 : decide (xk ≤ 1) = true := decide_eq_true hk1
              have ek : kOr xk o2 = orM o2 := by unfold kOr; rw [if_pos]; omega
              cases o2 with
              | none =>
                have e3 : decide (kOr xk none ≥ 0) = false := by rw [ek]; rfl
                clear ek
                generalize kOr xk none = ko at *
                go_wp2_with fail
                refine H51.out.mono ?_
                rintro e w5 ⟨rfl, hb⟩
                have HR5 := Lib.hid (ra_keep HR2.out hb)
                have HC5 := Lib.hid (ca_keep HC2.out hb)
                have HB5 := Lib.hid (bel_step HB2.out hb)
                clear hb H51
                go_wp2_with fail
                refine (H52.out _ HR5.out).mono ?_
                rintro e w6 ⟨rfl, rfl⟩
                go_wp2_with fail
                go_meet
                exact ⟨rfl, HL2.out, HRI2.out, hhd2, HC5.out, HR5.out, HB5.out⟩
              | some v =>
                have e3 : decide (kOr xk (some v) ≥ 0) = true := by rw [ek]; exact decide_eq_true (Int.natCast_nonneg v)
                have e4 : (((v : Nat) : Int) != kOr xk (some v)) = false := by rw [ek]; simp [orM]
                clear ek
                generalize kOr xk (some v) = ko at *
                go_wp2_with fail
                refine H51.out.mono ?_
                rintro e w5 ⟨rfl, hb⟩
                have HR5 := Lib.hid (ra_keep HR2.out hb)
                have HC5 := Lib.hid (ca_keep HC2.out hb)
                have HB5 := Lib.hid (bel_step HB2.out hb)
                clear hb H51
                go_wp2_with fail
                refine (H52.out _ HR5.out).mono ?_
                rintro e w6 ⟨rfl, rfl⟩
                go_wp2_with fail
                go_meet
                exact ⟨rfl, HL2.out, HRI2.out, hhd2, HC5.out, HR5.out, HB5.out⟩
            · have e2 : decide (xk ≤ 1) = false := decide_eq_false hk1
              generalize kOr xk o2 = ko at *
              go_wp2_with fail
              refine H51.out.mono ?_
              rintro e w5 ⟨rfl, hb⟩
              have HR5 := Lib.hid (ra_keep HR2.out hb)
              have HC5 := Lib.hid (ca_keep HC2.out hb)
              have HB5 := Lib.hid (bel_step HB2.out hb)
              clear hb H51
              go_wp2_with fail
              refine (H52.out _ HR5.out).mono ?_
              rintro e w6 ⟨rfl, rfl⟩
              go_wp2_with fail
              go_meet
              exact ⟨rfl, HL2.out, HRI2.out, hhd2, HC5.out, HR5.out, HB5.out⟩
        case rest => as_aux_lemma =>
          obtain ⟨rfl, hl2, RI2, _, HC2', HR2', HB2'⟩ := hcut
          clear HL2 HC2 HR2 HB2 BX2 HRI2 H51 H52
          have HL2 := Lib.hid hl2
          have HRI2 := Lib.hid RI2
          have HC2 := Lib.hid HC2'
          have HR2 := Lib.hid HR2'
          have HB2 := Lib.hid HB2'
          clear hl2 RI2 HC2' HR2' HB2'
          go_wp2_with fail
          go_loopg [16] (N + 2) (fun gk s16 wq => ∃ i : Nat, i ≤ N + 2 ∧ gk = N + 2 - i ∧ s16 = .int .i64 ((i : Int) - 1) ∧ CA wq cb fb fr2 hand2 ∧ RA wq qb gb cap fr2 hand2 ∧ Below w.heap.size w wq)
          case atStart => exact ⟨0, Nat.zero_le _, rfl, rfl, HC2.out, HR2.out, HB2.out⟩
          case round =>
            clear HC2 HR2 HB2
            obtain ⟨i, hi, hgk, rfl, HC3', HR3', HB3'⟩ := hrel
            have HC3 := Lib.hid HC3'
            have HR3 := Lib.hid HR3'
            have HB3 := Lib.hid HB3'
            clear HC3' HR3' HB3'
            obtain ⟨y0, _, _⟩ := ra_slice HR3.out
            rw [HL2.out] at y0
            obtain ⟨k, hk⟩ : ∃ k : Int, (i : Int) - 1 = k := ⟨_, rfl⟩
            have HKI := Lib.hid hk
            rw [hk]
            by_cases hlt2 : i < N + 2
            · have hkN : k ≤ (N : Int) := by omega
              have h41 := fun W (h : CA W cb fb fr2 hand2) => key41 cb fb fr2 hand2 k W h
              have h39 := fun W (h : CA W cb fb fr2 hand2) => pins39 cb fb fr2 hand2 k W h
              have h53 := fun W (h : RA W qb gb cap fr2 hand2) => has53 qb gb cap fr2 hand2 k W h
              rw [HL2.out] at h53
              have hkb : -1 ≤ k := by omega
              clear hk
              by_cases hin : k < 0 ∨ (N : Int) ≤ k
              · rw [key_out (by rw [HL2.out]; exact hin)] at h41
                rw [pins_out (by rw [HL2.out]; exact hin)] at h39
                rw [inN_out hin] at h53
                have H41 := Lib.hid h41
                have H39 := Lib.hid h39
                have H53 := Lib.hid h53
                clear h41 h39 h53 hin
                go_wp2_with fail
                refine (H41.out _ HC3.out).mono ?_
                rintro e w5 ⟨rfl, rfl⟩
                go_wp2_with fail
                refine (H53.out _ (ra_keep HR3.out (bel_box w5 (.cells #[.int .i64 (-1), .int .i64 0, .bool false] 67)))).mono ?_
                rintro e w6 ⟨rfl, rfl⟩
                go_upto_region 45 with fail
                obtain ⟨w8, hw8⟩ : ∃ w8, w8 = (w5.alloc (.cells #[.int .i64 (-1), .int .i64 0, .bool false] 67)) := ⟨_, rfl⟩
                have hbb : Below w5.heap.size w5 w8 := by rw [hw8]; exact bel_box w5 _
                have BW := Lib.hid (show Blk w8 w5.heap.size 67 #[.int .i64 (-1), .int .i64 0, .bool false] by rw [hw8]; exact blk_new w5 67 _)
                have HC8 := Lib.hid (ca_keep HC3.out hbb)
                have HR8 := Lib.hid (ra_keep HR3.out hbb)
                have HB8 := Lib.hid (bel_step HB3.out hbb)
                rw [← hw8]
                clear hw8 hbb HC3 HR3 HB3 y0
                generalize w5.heap.size = bw at *
                have x0 := blk_cell BW.out 0
                have x1 := blk_cell BW.out 1
                simp at x0 x1
                have e3 : ((0 : Int) != (0 : Int)) = false := by simp
                go_quiet (first | (go_at_call 39; refine Calls.quiet_of_same (H39.out _ (ca_keep HC8.out (bel_draw (Below.refl _ _) _)))))
                go_wp2_with fail
                go_roundg (N + 2 - (i + 1))
                case measure => omega
                case rel => exact ⟨i + 1, by omega, rfl, by have := HKI.out; rw [← this]; go_num, ca_keep HC8.out (bel_draw (Below.refl _ _) _), ra_keep HR8.out (bel_draw (Below.refl _ _) _), bel_draw HB8.out _⟩
              · obtain ⟨m, rfl⟩ := Int.eq_ofNat_of_zero_le (show 0 ≤ k by omega)
                have hm : m < N := by omega
                obtain ⟨f, hf⟩ : ∃ f, fr2[m]? = some f := ⟨_, List.getElem?_eq_getElem (by rw [HL2.out]; exact hm)⟩
                have hfk := HRI2.out.keys m f hf
                have HF := Lib.hid hf
                rw [pins_at hf] at h39
                rw [inN_in hm] at h53
                have q3 : (0 : Int) ≤ (m : Int) := Int.natCast_nonneg _
                have q4 : (m : Int) < (N : Int) := by omega
                by_cases hfn : f.key = -1
                · rw [key_none hf hfn] at h41
                  have H41 := Lib.hid h41
                  have H39 := Lib.hid h39
                  have H53 := Lib.hid h53
                  have e1 : decide (f.key ≥ 0) = false := by rw [hfn]; rfl
                  clear h41 h39 h53 hin hf hfn hfk
                  go_wp2_with fail
                  refine (H41.out _ HC3.out).mono ?_
                  rintro e w5 ⟨rfl, rfl⟩
                  go_wp2_with fail
                  refine (H53.out _ (ra_keep HR3.out (bel_box w5 (.cells #[.int .i64 (-1), .int .i64 0, .bool false] 67)))).mono ?_
                  rintro e w6 ⟨rfl, rfl⟩
                  obtain ⟨c0, c1, c2, _, _, _⟩ := ra_cells (ra_keep HR3.out (bel_box w5 (.cells #[.int .i64 (-1), .int .i64 0, .bool false] 67))) HF.out
                  have y6 := bel_keep (bel_box w5 (.cells #[.int .i64 (-1), .int .i64 0, .bool false] 67)) y0
                  have BN := blk_new w5 67 #[.int .i64 (-1), .int .i64 0, .bool false]
                  have z0 := blk_froz BN 0
                  have z1 := blk_froz BN 1
                  have z2 := blk_froz BN 2
                  go_upto_region 45 with fail
                  clear c0 c1 c2 y6 z0 z1 z2
                  obtain ⟨w8, hw8⟩ : ∃ w8, w8 = (w5.alloc (.cells #[.int .i64 f.key, .int .i64 f.pins, .bool f.mark] 67)) := ⟨_, rfl⟩
                  have hbb : Below w5.heap.size w5 w8 := by rw [hw8]; exact bel_box w5 _
                  have BW := Lib.hid (show Blk w8 w5.heap.size 67 #[.int .i64 f.key, .int .i64 f.pins, .bool f.mark] by rw [hw8]; exact blk_new w5 67 _)
                  have HC8 := Lib.hid (ca_keep HC3.out hbb)
                  have HR8 := Lib.hid (ra_keep HR3.out hbb)
                  have HB8 := Lib.hid (bel_step HB3.out hbb)
                  rw [← hw8]
                  clear hw8 hbb HC3 HR3 HB3 y0
                  generalize w5.heap.size = bw at *
                  have x0 := blk_cell BW.out 0
                  have x1 := blk_cell BW.out 1
                  simp at x0 x1
                  have e3 : ((f.pins : Int) != (f.pins : Int)) = false := by simp
                  go_quiet (first | (go_at_call 39; refine Calls.quiet_of_same (H39.out _ (ca_keep HC8.out (bel_draw (Below.refl _ _) _)))))
                  go_wp2_with fail
                  go_roundg (N + 2 - (i + 1))
                  case measure => omega
                  case rel => exact ⟨i + 1, by omega, rfl, by have := HKI.out; rw [← this]; go_num, ca_keep HC8.out (bel_draw (Below.refl _ _) _), ra_keep HR8.out (bel_draw (Below.refl _ _) _), bel_draw HB8.out _⟩
                · rw [key_some hf (by omega)] at h41
                  have H41 := Lib.hid h41
                  have H39 := Lib.hid h39
                  have H53 := Lib.hid h53
                  have e1 : decide (f.key ≥ 0) = true := decide_eq_true (by omega)
                  have e2 : (f.key != f.key) = false := by simp
                  clear h41 h39 h53 hin hf hfn hfk
                  go_wp2_with fail
                  refine (H41.out _ HC3.out).mono ?_
                  rintro e w5 ⟨rfl, rfl⟩
                  go_wp2_with fail
                  refine (H53.out _ (ra_keep HR3.out (bel_box w5 (.cells #[.int .i64 (-1), .int .i64 0, .bool false] 67)))).mono ?_
                  rintro e w6 ⟨rfl, rfl⟩
                  obtain ⟨c0, c1, c2, _, _, _⟩ := ra_cells (ra_keep HR3.out (bel_box w5 (.cells #[.int .i64 (-1), .int .i64 0, .bool false] 67))) HF.out
                  have y6 := bel_keep (bel_box w5 (.cells #[.int .i64 (-1), .int .i64 0, .bool false] 67)) y0
                  have BN := blk_new w5 67 #[.int .i64 (-1), .int .i64 0, .bool false]
                  have z0 := blk_froz BN 0
                  have z1 := blk_froz BN 1
                  have z2 := blk_froz BN 2
                  go_upto_region 45 with fail
                  clear c0 c1 c2 y6 z0 z1 z2
                  obtain ⟨w8, hw8⟩ : ∃ w8, w8 = (w5.alloc (.cells #[.int .i64 f.key, .int .i64 f.pins, .bool f.mark] 67)) := ⟨_, rfl⟩
                  have hbb : Below w5.heap.size w5 w8 := by rw [hw8]; exact bel_box w5 _
                  have BW := Lib.hid (show Blk w8 w5.heap.size 67 #[.int .i64 f.key, .int .i64 f.pins, .bool f.mark] by rw [hw8]; exact blk_new w5 67 _)
                  have HC8 := Lib.hid (ca_keep HC3.out hbb)
                  have HR8 := Lib.hid (ra_keep HR3.out hbb)
                  have HB8 := Lib.hid (bel_step HB3.out hbb)
                  rw [← hw8]
                  clear hw8 hbb HC3 HR3 HB3 y0
                  generalize w5.heap.size = bw at *
                  have x0 := blk_cell BW.out 0
                  have x1 := blk_cell BW.out 1
                  simp at x0 x1
                  have e3 : ((f.pins : Int) != (f.pins : Int)) = false := by simp
                  go_quiet (first | (go_at_call 39; refine Calls.quiet_of_same (H39.out _ (ca_keep HC8.out (bel_draw (Below.refl _ _) _)))))
                  go_wp2_with fail
                  go_roundg (N + 2 - (i + 1))
                  case measure => omega
                  case rel => exact ⟨i + 1, by omega, rfl, by have := HKI.out; rw [← this]; go_num, ca_keep HC8.out (bel_draw (Below.refl _ _) _), ra_keep HR8.out (bel_draw (Below.refl _ _) _), bel_draw HB8.out _⟩
            · have hkN : ¬ k ≤ (N : Int) := by omega
              clear hk
              go_wp2_with fail
              go_roundg (xs.length - (j + 1))
              case measure => omega
              case rel => exact ⟨j + 1, fr2, hand2, by omega, rfl, by go_num, HL2.out, HRI2.out, hhd2, HC3.out, HR3.out, HB3.out⟩
    · go_wp2_with fail
      refine (wakes33 _).mono ?_
      rintro e w9 ⟨rfl, hb⟩
      go_wp2_with fail
      go_ret
      exact ⟨rfl, bel_step HB hb⟩

theorem clockPlays (n : Int) (A : Option Addr) (len c : Nat) (zs : List St) (w : World) (h2 : StRow w A len c zs) :
    Calls Try.prog 11 #[.int .i64 n, .slice A len c] w fun e w' => e = .returned (.bool true) ∧ Below w.heap.size w w' := by
  obtain ⟨hr, rfl, _, _⟩ := rds_of_row h2
  by_cases hb : 200 < zs.length
  · exact plays_big n A _ c w hb
  · by_cases hn : n < 1 ∨ 16 < n
    · exact plays_bad n A _ c w (by omega) hn
    · obtain ⟨N, rfl⟩ := Int.eq_ofNat_of_zero_le (show 0 ≤ n by omega)
      exact plays_main N A c zs w (by omega) (by omega) hr (by omega)
end Go.Proofs.Ytecjccjgcdnpnaa
