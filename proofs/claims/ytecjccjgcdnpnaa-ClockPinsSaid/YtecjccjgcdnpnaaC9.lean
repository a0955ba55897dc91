/- The law ClockPins holds of every byte and every list of steps. -/
import Derived.Test.YtecjccjgcdnpnaaKp
import Derived.OpenShut
import Derived.BigQuiet
import Derived.Deep.RegionHeld3
import Derived.StillTailTactics
namespace Go.Proofs.Ytecjccjgcdnpnaa
open Go.RowKit
set_option linter.unusedSimpArgs false
set_option linter.unusedVariables false

theorem many16' (a : Nat) : ∃ N : Nat, (1 + (a : Int) % 16) = N ∧ 1 ≤ N ∧ N ≤ 16 := ⟨1 + a % 16, by omega, by omega, by omega⟩

set_option maxRecDepth 100000 in
set_option maxHeartbeats 1000000 in
theorem pins_big (a : Nat) (A : Option Addr) (n c : Nat) (w : World) (ha : a ≤ 255) (hn : 150 < n) :
    Calls Try.prog 9 #[.int .u8 a, .slice A n c] w fun e w' => e = .returned (.bool true) ∧ Below w.heap.size w w' := by
  obtain ⟨N, hN, h1, h2⟩ := many16' a
  go_enter Try.func9, Try.ntmps9
  go_wp2_with fail
  refine (new32 N _ h1 h2).mono ?_
  rintro e w1 ⟨cb, fb, rfl, HC, hcb, hfb, HB⟩
  go_wp2_with fail
  refine (wakes33 _).mono ?_
  rintro e w2 ⟨rfl, hb⟩
  go_wp2_with fail
  go_ret
  exact ⟨rfl, bel_step HB hb⟩

theorem rds_cells {w : World} {b o k : Nat} {xs : List St} {x : St} (h : RdS w (some ⟨b, o, none⟩) xs) (hk : xs[k]? = some x) : w.cell? ⟨b, o + k * 3, none⟩ = some (.int .i64 x.kind) ∧ w.cell? ⟨b, o + k * 3 + 1, none⟩ = some (.int .i64 x.frame) ∧ w.cell? ⟨b, o + k * 3 + 2, none⟩ = some (.int .i64 x.key) := by
  rcases h with h | ⟨b', o', hA, h⟩
  · subst h; simp at hk
  · injection hA with hA
    injection hA with e1 e2
    subst e1 e2
    exact h k x hk

/-- The state at the head of a round, and behind each of its parts. -/
def PSt (w : World) (N g cb fb m : Nat) (fr : List Fr) (hand : Nat) (wr : World) : Prop :=
  fr.length = N ∧ PInv fr m ∧ hand < N ∧ Blk wr g 3 (iv (pinsOf fr)) ∧ CA wr cb fb fr hand ∧ Below w.heap.size w wr

set_option maxRecDepth 100000 in
set_option maxHeartbeats 40000000 in
theorem pins_main (a : Nat) (A : Option Addr) (c : Nat) (xs : List St) (w : World) (ha : a ≤ 255) (hx : RdS w A xs) (hn : xs.length ≤ 150) :
    Calls Try.prog 9 #[.int .u8 a, .slice A xs.length c] w fun e w' => e = .returned (.bool true) ∧ Below w.heap.size w w' := by
  obtain ⟨N, hN, h1, h2⟩ := many16' a
  have HX := Lib.hid hx
  clear hx
  go_enter Try.func9, Try.ntmps9
  go_wp2_with fail
  refine (new32 N _ h1 h2).mono ?_
  rintro e w1 ⟨cb, fb, rfl, HC, hcb, hfb, HB⟩
  have hmk := fun W => run_make_row' (P := Try.prog) 37 3 (.int .i64 0) 8 Try.underlying37 info3 rfl .i64 .i64 N (by omega) (by omega) W
  go_wp2_with fail
  clear hmk
  have C0 : Blk (w1.alloc (.cells (madeCells #[Value.int .i64 0] N) 3)) w1.heap.size 3 (iv (pinsOf (List.replicate N ⟨-1, false, 0⟩))) := by
    have := blk_new w1 3 (madeCells #[Value.int .i64 0] N)
    rw [pinsOf, List.map_replicate, ← iv_made]
    exact this
  have hg1 : ¬ w1.heap.size = cb := by have := blk_lt HC.1; omega
  have hg2 : ¬ w1.heap.size = fb := by obtain ⟨_, ⟨cs, hf, _⟩, _⟩ := HC; have := blk_lt hf; omega
  have hg3 : ¬ cb = w1.heap.size := fun e => hg1 e.symm
  have hg4 : ¬ fb = w1.heap.size := fun e => hg2 e.symm
  have hw1 := HB.size
  have HC0 := ca_keep HC (bel_box w1 (.cells (madeCells #[Value.int .i64 0] N) 3))
  have P0 : PSt w N w1.heap.size cb fb 0 (List.replicate N ⟨-1, false, 0⟩) 0 (w1.alloc (.cells (madeCells #[Value.int .i64 0] N) 3)) := ⟨by simp, pinv_new _ _, by omega, C0, HC0, bel_new HB _⟩
  clear HC HB C0 HC0
  generalize w1.heap.size = g at *
  go_loopg [9] xs.length (fun gk s9 wr => ∃ (j : Nat) (fr : List Fr) (hand : Nat), j ≤ xs.length ∧ gk = xs.length - j ∧ s9 = .int .i64 j ∧ PSt w N g cb fb j fr hand wr)
  case atStart => exact ⟨0, _, 0, Nat.zero_le _, rfl, rfl, P0⟩
  case round =>
    clear P0
    obtain ⟨j, fr, hand, hj, hgk, rfl, hlen, PI, hhd, C, HC, HB⟩ := hrel
    by_cases hlt : j < xs.length
    · obtain ⟨b, o, ⟨xk, xf, xy⟩, rfl, hxj, c0, c1, c2⟩ := rds_at (rds_keep HX.out HB) hlt
      dsimp only at c0 c1 c2
      have q0 : (0 : Int) ≤ (j : Int) := Int.natCast_nonneg _
      have q1 : (j : Int) < (xs.length : Int) := by omega
      obtain ⟨o0, fr1, hand1, hv, hk1, hp1, hhd1, hcase⟩ := victim_fact PI (by rw [hlen]; exact hhd)
      have hv34 := victim34 cb fb fr hand wr HC (by rw [hlen]; exact hhd)
      rw [hv] at hv34
      have PI1 := pinv_like PI hk1 hp1
      have hlen1 : fr1.length = N := by rw [like_length hk1]; exact hlen
      have HV := Lib.hid hv34
      have HCASE := Lib.hid hcase
      have HPI := Lib.hid PI1
      have HL := Lib.hid hlen1
      have CC := Lib.hid C
      rw [← hp1] at C
      have CC := Lib.hid C
      have HXb : xs[j]? = some ⟨xk, xf, xy⟩ := hxj
      have HXB := Lib.hid HXb
      rw [hlen] at hhd1
      clear hv34 hcase PI1 hlen1 hv hk1 hp1 HXb hxj PI hlen hhd C HC c0 c1 c2
      go_wp2_with fail
      refine HV.out.mono ?_
      rintro e w3 ⟨rfl, HC3', HO⟩
      try dsimp only at HC3'
      have HC3 := Lib.hid HC3'
      have CC3 := Lib.hid (blk_only CC.out HO hg1 hg2)
      have HB3 := Lib.hid (only_below HB HO hcb hfb (Nat.le_refl _))
      clear HC3' HO CC HV HB
      go_wp2_with fail
      go_loopg [12, 13] N (fun gk s12 s13 wq => ∃ (k : Nat) (t : Bool), k ≤ N ∧ gk = N - k ∧ s13 = .int .i64 k ∧ s12 = .bool t ∧ AllTo fr1 k t ∧ wq = w3)
      case atStart => exact ⟨0, true, Nat.zero_le _, rfl, rfl, rfl, allTo_zero _, rfl⟩
      case round =>
        obtain ⟨k, t, hk, hgk, rfl, rfl, ht, rfl⟩ := hrel
        have HT := Lib.hid ht
        clear ht
        by_cases hlt2 : k < N
        · obtain ⟨f, hf⟩ : ∃ f, fr1[k]? = some f := ⟨_, List.getElem?_eq_getElem (by rw [HL.out]; exact hlt2)⟩
          have y0 := blk_cell CC3.out k
          rw [iv_get, pinsOf_get hf] at y0
          simp at y0
          have HF := Lib.hid hf
          have p0 : (0 : Int) ≤ (k : Int) := Int.natCast_nonneg _
          have p1 : (k : Int) < (N : Int) := by omega
          clear hf
          cases t with
          | true =>
            by_cases hp : 0 < f.pins
            · go_wp2_with fail
              go_roundg (N - (k + 1))
              case measure => omega
              case rel => exact ⟨k + 1, true, by omega, rfl, by go_num, rfl, allTo_hit HT.out HF.out hp, rfl⟩
            · go_wp2_with fail
              go_roundg (N - (k + 1))
              case measure => omega
              case rel => exact ⟨k + 1, false, by omega, rfl, by go_num, rfl, allTo_miss HF.out (by omega) _, rfl⟩
          | false =>
            go_wp2_with fail
            go_roundg (N - (k + 1))
            case measure => omega
            case rel => exact ⟨k + 1, false, by omega, rfl, by go_num, rfl, allTo_old HT.out _, rfl⟩
        · obtain rfl : N = k := by omega
          clear hlt2 hk hgk
          have hT := HT.out
          rw [← HL.out] at hT
          have HTT := Lib.hid hT
          clear HT hT
          go_upto_region 15 with fail
          go_cut [94] (fun s wx => s = .bool false ∧ wx = wr)
          case first => as_aux_lemma =>
            rcases HCASE.out with ⟨v, f, rfl, hf, hp0⟩ | ⟨rfl, hall⟩
            · obtain rfl := allTo_loose HTT.out hf hp0
              have hvN : v < N := by have := (List.getElem?_eq_some_iff.1 hf).1; have := HL.out; omega
              have q5 : (0 : Int) ≤ (v : Int) := Int.natCast_nonneg _
              have q6 : (v : Int) < (N : Int) := by omega
              have y0 := blk_cell CC3.out v
              rw [iv_get, pinsOf_get hf, hp0] at y0
              simp at y0
              clear hf hp0 HTT HCASE
              go_wp2_with fail
              go_meet
              exact ⟨congrArg Value.bool (by rw [decide_eq_false (by omega), decide_eq_false (by omega)]; rfl), rfl⟩
            · obtain rfl := allTo_all HTT.out hall
              clear hall HTT HCASE
              go_wp2_with fail
              go_meet
              exact ⟨rfl, rfl⟩
          case rest =>
            obtain ⟨rfl, rfl⟩ := hcut
            clear HTT
            go_upto_if 95 with fail
            go_cut [] (fun wx => ∃ fr2, PSt w N g cb fb (j + 1) fr2 hand1 wx)
            case first => as_aux_lemma =>
              rcases HCASE.out with ⟨v, f, rfl, hf, hp0⟩ | ⟨rfl, hall⟩
              · have hvN : v < N := by have := (List.getElem?_eq_some_iff.1 hf).1; have := HL.out; omega
                have q5 : (0 : Int) ≤ (v : Int) := Int.natCast_nonneg _
                have q6 : (v : Int) < (N : Int) := by omega
                have HF := Lib.hid hf
                have HP0 := Lib.hid hp0
                obtain ⟨c0, c1, c2⟩ := rds_cells (rds_keep HX.out HB3.out) HXB.out
                dsimp only at c0 c1 c2
                clear hf hp0 HCASE
                by_cases hk0 : 0 ≤ xy
                · have e2 : decide (xy ≥ 0) = true := by simpa using hk0
                  cases hFF : findF fr1 xy with
                  | some i =>
                    obtain ⟨f2, hf2, hfk⟩ := findF_at hFF
                    have h5 := find35 cb fb fr1 hand1 xy _ HC3.out
                    rw [(findR_nn hk0).trans hFF] at h5
                    have hiN : i < N := by have := (List.getElem?_eq_some_iff.1 hf2).1; have := HL.out; omega
                    have q7 : (0 : Int) ≤ (i : Int) := Int.natCast_nonneg _
                    have q8 : (i : Int) < (N : Int) := by omega
                    have HK2 := Lib.hid (show ¬ f2.key = -1 by omega)
                    have HF2 := Lib.hid hf2
                    have H5 := Lib.hid h5
                    clear h5 hFF hf2 hfk
                    go_wp2_with fail
                    refine H5.out.mono ?_
                    rintro e w5 ⟨rfl, hb⟩
                    have CC5 := Lib.hid (blk_keep CC3.out hb)
                    have HC5 := Lib.hid (ca_keep HC3.out hb)
                    have HB5 := Lib.hid (bel_step HB3.out hb)
                    clear c0 c1 c2 H5 hb
                    obtain ⟨c0, c1, c2⟩ := rds_cells (rds_keep HX.out HB5.out) HXB.out
                    dsimp only at c0 c1 c2
                    have hbd := HPI.out.bd _ _ HF2.out
                    by_cases hk2 : xk = 2
                    · have e3 : (xk == 2) = true := by simp [hk2]
                      have h6 := pin37 cb fb fr1 hand1 (i : Int) _ HC5.out (pinv_mem HPI.out (show j ≤ 1000000 by omega))
                      rw [pin_ok HF2.out HK2.out] at h6
                      have H6 := Lib.hid h6
                      clear h6
                      go_wp2_with fail
                      refine H6.out.mono ?_
                      rintro e w6 ⟨rfl, HC6', HO⟩
                      try dsimp only at HC6'
                      have HC6 := Lib.hid HC6'
                      have CC6 := Lib.hid (blk_only CC5.out HO hg1 hg2)
                      have HB6 := Lib.hid (only_below HB5.out HO hcb hfb (Nat.le_refl _))
                      clear HC6' HO H6
                      have y0 := blk_cell CC6.out i
                      rw [iv_get, pinsOf_get HF2.out] at y0
                      simp at y0
                      have z0 := blk_froz CC6.out i
                      clear c0 c1 c2
                      go_wp2_with fail
                      have C8' := blk_set CC6.out i (.int .i64 (f2.pins + 1))
                      rw [iv_set, show (pinsOf fr1).set i (f2.pins + 1) = pinsOf (fr1.set i { f2 with pins := f2.pins + 1 }) from by rw [pinsOf_set]] at C8'
                      go_meet
                      exact ⟨fr1.set i { f2 with pins := f2.pins + 1 }, by rw [List.length_set]; exact HL.out, pinv_set (pinv_mono HPI.out (Nat.le_succ j)) (by have := HPI.out.bd _ _ HF2.out; simp; omega) (fun q => absurd q HK2.out), hhd1, C8', ca_far HC6.out hg1 hg2 _, bel_set HB6.out _ _ hw1⟩
                    · have e3 : (xk == 2) = false := by simp [hk2]
                      go_wp2_with fail
                      go_meet
                      exact ⟨fr1, HL.out, pinv_mono HPI.out (by omega), hhd1, CC5.out, HC5.out, HB5.out⟩
                  | none =>
                    have h5 := find35 cb fb fr1 hand1 xy _ HC3.out
                    rw [(findR_nn hk0).trans hFF] at h5
                    have h7 := fun W (h : CA W cb fb fr1 hand1) => put36 cb fb fr1 hand1 (v : Int) xy W h
                    rw [put_ok HF.out hk0 HP0.out (.inl hFF)] at h7
                    have H7 := Lib.hid h7
                    clear h7
                    have H5 := Lib.hid h5
                    clear h5 hFF
                    go_wp2_with fail
                    refine H5.out.mono ?_
                    rintro e w5 ⟨rfl, hb⟩
                    have CC5 := Lib.hid (blk_keep CC3.out hb)
                    have HC5 := Lib.hid (ca_keep HC3.out hb)
                    have HB5 := Lib.hid (bel_step HB3.out hb)
                    clear c0 c1 c2 H5 hb
                    go_wp2_with fail
                    refine (H7.out _ HC5.out).mono ?_
                    rintro e w7 ⟨rfl, HC7', HO⟩
                    try dsimp only at HC7'
                    have hps : pinsOf (fr1.set v ⟨xy, true, 0⟩) = pinsOf fr1 := by rw [pinsOf_set]; exact set_same (by rw [pinsOf_get HF.out, HP0.out])
                    have HC7 := Lib.hid HC7'
                    have CC7 := Lib.hid (show Blk w7 g 3 (iv (pinsOf (fr1.set v ⟨xy, true, 0⟩))) by rw [hps]; exact blk_only CC5.out HO hg1 hg2)
                    have HB7 := Lib.hid (only_below HB5.out HO hcb hfb (Nat.le_refl _))
                    have HF7 := Lib.hid (show (fr1.set v ⟨xy, true, 0⟩)[v]? = some (⟨xy, true, 0⟩ : Fr) by rw [List.getElem?_set_self (List.getElem?_eq_some_iff.1 HF.out).1])
                    have HPI7 : Hid (PInv (fr1.set v ⟨xy, true, 0⟩) j) := Lib.hid (pinv_set HPI.out ⟨Int.le_refl _, Int.natCast_nonneg _⟩ (fun _ => rfl))
                    have HL7 := Lib.hid (show (fr1.set v ⟨xy, true, 0⟩).length = N by rw [List.length_set]; exact HL.out)
                    have HKK := Lib.hid (show ¬ (⟨xy, true, 0⟩ : Fr).key = -1 by show ¬ xy = -1; omega)
                    clear HC7' HO H7 hps
                    generalize hg7 : fr1.set v ⟨xy, true, 0⟩ = fr7 at *
                    obtain ⟨c0, c1, c2⟩ := rds_cells (rds_keep HX.out HB7.out) HXB.out
                    dsimp only at c0 c1 c2
                    by_cases hk2 : xk = 2
                    · have e3 : (xk == 2) = true := by simp [hk2]
                      have h6 := pin37 cb fb fr7 hand1 (v : Int) _ HC7.out (pinv_mem HPI7.out (show j ≤ 1000000 by omega))
                      rw [pin_ok HF7.out HKK.out] at h6
                      have H6 := Lib.hid h6
                      clear h6
                      go_wp2_with fail
                      refine H6.out.mono ?_
                      rintro e w6 ⟨rfl, HC6', HO⟩
                      try dsimp only at HC6'
                      have HC6 := Lib.hid HC6'
                      have CC6 := Lib.hid (blk_only CC7.out HO hg1 hg2)
                      have HB6 := Lib.hid (only_below HB7.out HO hcb hfb (Nat.le_refl _))
                      clear HC6' HO H6
                      have y0 := blk_cell CC6.out v
                      rw [iv_get, pinsOf_get HF7.out] at y0
                      simp at y0
                      have z0 := blk_froz CC6.out v
                      clear c0 c1 c2
                      go_wp2_with fail
                      have C8' := blk_set CC6.out v (.int .i64 ((⟨xy, true, 0⟩ : Fr).pins + 1))
                      rw [iv_set, show (pinsOf fr7).set v ((⟨xy, true, 0⟩ : Fr).pins + 1) = pinsOf (fr7.set v { (⟨xy, true, 0⟩ : Fr) with pins := (⟨xy, true, 0⟩ : Fr).pins + 1 }) from by rw [pinsOf_set]] at C8'
                      go_meet
                      exact ⟨fr7.set v { (⟨xy, true, 0⟩ : Fr) with pins := (⟨xy, true, 0⟩ : Fr).pins + 1 }, by rw [List.length_set]; exact HL7.out, pinv_set (pinv_mono HPI7.out (Nat.le_succ j)) (by have := HPI7.out.bd _ _ HF7.out; simp; omega) (fun q => absurd q HKK.out), hhd1, C8', ca_far HC6.out hg1 hg2 _, bel_set HB6.out _ _ hw1⟩
                    · have e3 : (xk == 2) = false := by simp [hk2]
                      go_wp2_with fail
                      go_meet
                      exact ⟨fr7, HL7.out, pinv_mono HPI7.out (by omega), hhd1, CC7.out, HC7.out, HB7.out⟩
                · have e2 : decide (xy ≥ 0) = false := by simp; omega
                  go_wp2_with fail
                  go_meet
                  exact ⟨fr1, HL.out, pinv_mono HPI.out (by omega), hhd1, CC3.out, HC3.out, HB3.out⟩
              · clear HCASE hall
                go_wp2_with fail
                go_meet
                exact ⟨fr1, HL.out, pinv_mono HPI.out (by omega), hhd1, CC3.out, HC3.out, HB3.out⟩
            case rest => as_aux_lemma =>
              obtain ⟨fr2, hl2, PI2, _, C2, HC2', HB2'⟩ := hcut
              have HL2 := Lib.hid hl2
              have HPI2 := Lib.hid PI2
              have CC2 := Lib.hid C2
              have HC2 := Lib.hid HC2'
              have HB2 := Lib.hid HB2'
              clear HCASE CC3 HC3 HB3 HPI HL CC hl2 PI2 C2 HC2' HB2'
              obtain ⟨c0, c1, c2⟩ := rds_cells (rds_keep HX.out HB2.out) HXB.out
              dsimp only at c0 c1 c2
              go_upto_region 29 with fail
              go_cut [163] (fun s wx => s = .bool (decide (xk = 3) && inN N xf) ∧ wx = wc)
              case first => as_aux_lemma =>
                by_cases hk3 : xk = 3
                · have e4 : (xk == 3) = true := by simp [hk3]
                  by_cases hlo : xf < 0
                  · have e10 : decide (xf ≥ 0) = false := by simp; omega
                    go_wp2_with fail
                    go_meet
                    exact ⟨congrArg Value.bool (by rw [inN_out (.inl hlo), Bool.and_false]), rfl⟩
                  · by_cases hhi : (N : Int) ≤ xf
                    · have e10 : decide (xf < (N : Int)) = false := decide_eq_false (by omega)
                      go_wp2_with fail
                      go_meet
                      exact ⟨congrArg Value.bool (by rw [inN_out (.inr hhi), Bool.and_false]), rfl⟩
                    · have e10 : decide (xf < (N : Int)) = true := decide_eq_true (by omega)
                      go_wp2_with fail
                      go_meet
                      exact ⟨congrArg Value.bool (by rw [show inN N xf = true from decide_eq_true (by omega), decide_eq_true hk3]; rfl), rfl⟩
                · have e4 : (xk == 3) = false := by simp [hk3]
                  go_wp2_with fail
                  go_meet
                  exact ⟨congrArg Value.bool (by rw [decide_eq_false hk3, Bool.false_and]), rfl⟩
              case rest =>
                obtain ⟨rfl, rfl⟩ := hcut
                clear c0 c1 c2
                generalize hp : (decide (xk = 3) && inN N xf) = p at *
                have HP := Lib.hid hp
                clear hp
                go_upto_if 163 with fail
                go_cut [] (fun wx => ∃ fr3, PSt w N g cb fb (j + 1) fr3 hand1 wx)
                case first => as_aux_lemma =>
                  cases p with
                  | false =>
                    go_wp2_with fail
                    go_meet
                    exact ⟨fr2, HL2.out, HPI2.out, hhd1, CC2.out, HC2.out, HB2.out⟩
                  | true =>
                    have hpp := HP.out
                    clear HP
                    rw [Bool.and_eq_true] at hpp
                    have hin := of_decide_eq_true hpp.2
                    obtain ⟨i, rfl⟩ := Int.eq_ofNat_of_zero_le hin.1
                    have hiN : i < N := by omega
                    clear hpp hin
                    have q5 : (0 : Int) ≤ (i : Int) := Int.natCast_nonneg _
                    have q6 : (i : Int) < (N : Int) := by omega
                    obtain ⟨f, hf⟩ : ∃ f, fr2[i]? = some f := ⟨_, List.getElem?_eq_getElem (by rw [HL2.out]; exact hiN)⟩
                    have hbd := HPI2.out.bd _ _ hf
                    have HF := Lib.hid hf
                    have h6 := fun W (h : CA W cb fb fr2 hand1) => unpin38 cb fb fr2 hand1 (i : Int) W h (pinv_mem HPI2.out (show j + 1 ≤ 1000000 by omega))
                    have hbl : b < w.heap.size := World.block_lt_of_cell? w _ (rds_cells HX.out HXB.out).1
                    have hb1 : ¬ b = cb := by omega
                    have hb2 : ¬ b = fb := by omega
                    obtain ⟨c0, c1, c2⟩ := rds_cells (rds_keep HX.out HB2.out) HXB.out
                    dsimp only at c0 c1 c2
                    have y0 := blk_cell CC2.out i
                    rw [iv_get, pinsOf_get hf] at y0
                    simp at y0
                    have HBd := bel_draw1 (Below.refl wc.heap.size wc)
                    clear c0 c2
                    by_cases hp0 : f.pins = 0
                    · rw [unpin_zero hf hp0] at h6
                      have H6 := Lib.hid h6
                      have HP0 := Lib.hid hp0
                      rw [hp0] at y0
                      clear h6 hf hp0
                      go_upto_region 30 with fail
                      first
                        | go_region_held3 (fun w' => w'.cell? ⟨b, o + j * 3 + 1, none⟩ = some (.int .i64 i) ∧ w'.cell? ⟨g, i, none⟩ = some (.int .i64 0) ∧ Below wc.heap.size wc wc.drew)
                            (first | (go_keep; done) | ((try go_split_ands); refine ⟨?_, ?_, ?_⟩ <;> (first | assumption | exact only_cell (by assumption) HO hb1 hb2 | exact only_cell (by assumption) HO hg1 hg2 | (go_keep; done))))
                            (first
                              | (go_at_call 38; refine (H6.out _ (ca_keep HC2.out HBd)).mono ?_; rintro e w9 ⟨rfl, HC9, HO⟩))
                        | fail
                      go_split_ands
                      have HBe : Below wc.heap.size wc wc.drew := by assumption
                      have HCX := Lib.hid HC9
                      have CC9 := Lib.hid (blk_only (blk_keep CC2.out HBe) HO hg1 hg2)
                      have HB9 := Lib.hid (only_below (bel_step HB2.out HBe) HO hcb hfb (Nat.le_refl _))
                      have y9 : w9.cell? ⟨g, i, none⟩ = some (.int .i64 0) := by assumption
                      have c9 : w9.cell? ⟨b, o + j * 3 + 1, none⟩ = some (.int .i64 i) := by assumption
                      clear HC9 HO HBe
                      go_upto_region 32 with fail
                      have hz := bel_draw1 (Below.refl w9.heap.size w9)
                      have yz := bel_keep hz y9
                      have cz := bel_keep hz c9
                      have CZ := Lib.hid (blk_keep CC9.out hz)
                      have HZ := Lib.hid (ca_keep HCX.out hz)
                      have BZ := Lib.hid (bel_step HB9.out hz)
                      have zz := blk_froz CZ.out i
                      go_still_tail 17, (by kernel_rfl)
                      change wpList _ _ _ _ _ w9.drew
                      generalize w9.drew = wz at *
                      clear y9 c9 HCX CC9 HB9 hz
                      go_wp2_with fail
                      have CF := blk_set CZ.out i (.int .i64 (max 0 (-1)))
                      rw [iv_set, show (pinsOf fr2).set i (max 0 (-1)) = pinsOf fr2 from set_same (by rw [pinsOf_get HF.out, HP0.out]; rfl)] at CF
                      go_meet
                      exact ⟨fr2, HL2.out, HPI2.out, hhd1, CF, ca_far HZ.out hg1 hg2 _, bel_set BZ.out _ _ hw1⟩
                    · rw [unpin_pos hf hp0] at h6
                      have H6 := Lib.hid h6
                      have hpos : 0 < f.pins := by omega
                      have e6 : decide (f.pins > 0) = true := decide_eq_true hpos
                      clear h6 hf hp0
                      go_upto_region 30 with fail
                      first
                        | go_region_held3 (fun w' => w'.cell? ⟨b, o + j * 3 + 1, none⟩ = some (.int .i64 i) ∧ w'.cell? ⟨g, i, none⟩ = some (.int .i64 f.pins) ∧ Below wc.heap.size wc wc.drew)
                            (first | (go_keep; done) | ((try go_split_ands); refine ⟨?_, ?_, ?_⟩ <;> (first | assumption | exact only_cell (by assumption) HO hb1 hb2 | exact only_cell (by assumption) HO hg1 hg2 | (go_keep; done))))
                            (first
                              | (go_at_call 38; refine (H6.out _ (ca_keep HC2.out HBd)).mono ?_; rintro e w9 ⟨rfl, HC9, HO⟩))
                        | fail
                      go_split_ands
                      have HBe : Below wc.heap.size wc wc.drew := by assumption
                      have HCX := Lib.hid HC9
                      have CC9 := Lib.hid (blk_only (blk_keep CC2.out HBe) HO hg1 hg2)
                      have HB9 := Lib.hid (only_below (bel_step HB2.out HBe) HO hcb hfb (Nat.le_refl _))
                      have y9 : w9.cell? ⟨g, i, none⟩ = some (.int .i64 f.pins) := by assumption
                      have c9 : w9.cell? ⟨b, o + j * 3 + 1, none⟩ = some (.int .i64 i) := by assumption
                      clear HC9 HO HBe
                      go_upto_region 32 with fail
                      have hz := bel_draw1 (Below.refl w9.heap.size w9)
                      have yz := bel_keep hz y9
                      have cz := bel_keep hz c9
                      have CZ := Lib.hid (blk_keep CC9.out hz)
                      have HZ := Lib.hid (ca_keep HCX.out hz)
                      have BZ := Lib.hid (bel_step HB9.out hz)
                      have zz := blk_froz CZ.out i
                      go_still_tail 17, (by kernel_rfl)
                      change wpList _ _ _ _ _ w9.drew
                      generalize w9.drew = wz at *
                      clear y9 c9 HCX CC9 HB9 hz
                      go_wp2_with fail
                      have CF := blk_set CZ.out i (.int .i64 (max 0 (f.pins - 1)))
                      rw [iv_set, show (pinsOf fr2).set i (max 0 (f.pins - 1)) = pinsOf (fr2.set i { f with pins := f.pins - 1 }) from by rw [pinsOf_set, show max 0 (f.pins - 1) = f.pins - 1 by omega]] at CF
                      go_meet
                      exact ⟨fr2.set i { f with pins := f.pins - 1 }, by rw [List.length_set]; exact HL2.out, pinv_set HPI2.out (by have := HPI2.out.bd _ _ HF.out; simp; omega) (fun q => absurd (HPI2.out.emp _ _ HF.out q) (by omega)), hhd1, CF, ca_far HZ.out hg1 hg2 _, bel_set BZ.out _ _ hw1⟩
                case rest => as_aux_lemma =>
                  obtain ⟨fr3, hl3, PI3, _, C3', HC3', HB3'⟩ := hcut
                  have HL3 := Lib.hid hl3
                  have HPI3 := Lib.hid PI3
                  have CC3 := Lib.hid C3'
                  have HC3 := Lib.hid HC3'
                  have HB3 := Lib.hid HB3'
                  clear HL2 HPI2 CC2 HC2 HB2 HP hl3 PI3 C3' HC3' HB3'
                  go_wp2_with fail
                  go_loopg [17] N (fun gk s17 wq => ∃ k : Nat, k ≤ N ∧ gk = N - k ∧ s17 = .int .i64 k ∧ Blk wq g 3 (iv (pinsOf fr3)) ∧ CA wq cb fb fr3 hand1 ∧ Below w.heap.size w wq)
                  case atStart => exact ⟨0, Nat.zero_le _, rfl, rfl, CC3.out, HC3.out, HB3.out⟩
                  case round =>
                    clear CC3 HC3 HB3
                    obtain ⟨k, hk, hgk, rfl, C9, H9, B9⟩ := hrel
                    have CC9 := Lib.hid C9
                    have HC9 := Lib.hid H9
                    have HB9 := Lib.hid B9
                    clear C9 H9 B9
                    by_cases hlt2 : k < N
                    · obtain ⟨f, hf⟩ : ∃ f, fr3[k]? = some f := ⟨_, List.getElem?_eq_getElem (by rw [HL3.out]; exact hlt2)⟩
                      have y0 := blk_cell CC9.out k
                      rw [iv_get, pinsOf_get hf] at y0
                      simp at y0
                      have h7 := fun W (h : CA W cb fb fr3 hand1) => pins39 cb fb fr3 hand1 (k : Int) W h
                      rw [pins_at hf] at h7
                      have H7 := Lib.hid h7
                      have e5 : (f.pins != f.pins) = false := by simp
                      have p0 : (0 : Int) ≤ (k : Int) := Int.natCast_nonneg _
                      have p1 : (k : Int) < (N : Int) := by omega
                      clear h7 hf
                      go_wp2_with fail
                      go_quiet (first | (go_at_call 39; refine Calls.quiet_of_same (H7.out _ (ca_keep HC9.out (bel_draw (Below.refl _ _) _)))))
                      go_wp2_with fail
                      go_roundg (N - (k + 1))
                      case measure => omega
                      case rel => exact ⟨k + 1, by omega, rfl, by go_num, blk_drewN CC9.out _, ca_keep HC9.out (bel_draw (Below.refl _ _) _), bel_draw HB9.out _⟩
                    · go_wp2_with fail
                      go_roundg (xs.length - (j + 1))
                      case measure => omega
                      case rel => exact ⟨j + 1, fr3, hand1, by omega, rfl, by go_num, HL3.out, HPI3.out, hhd1, CC9.out, HC9.out, HB9.out⟩
    · go_wp2_with fail
      refine (wakes33 _).mono ?_
      rintro e w9 ⟨rfl, hb⟩
      go_wp2_with fail
      go_ret
      exact ⟨rfl, bel_step HB hb⟩

theorem clockPins (n : Int) (A : Option Addr) (len c : Nat) (zs : List St) (w : World) (h1 : (Lit.int .u8 n).wf = true) (h2 : StRow w A len c zs) :
    Calls Try.prog 9 #[.int .u8 n, .slice A len c] w fun e w' => e = .returned (.bool true) ∧ Below w.heap.size w w' := by
  obtain ⟨hn0, hn1⟩ := bounds_u8 h1
  obtain ⟨a, rfl⟩ := Int.eq_ofNat_of_zero_le hn0
  obtain ⟨hr, rfl, _, _⟩ := rds_of_row h2
  by_cases hb : 150 < zs.length
  · exact pins_big a A _ c w (by omega) hb
  · exact pins_main a A c zs w (by omega) hr (by omega)
end Go.Proofs.Ytecjccjgcdnpnaa
