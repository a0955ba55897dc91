/- The law ClockKeys holds of every byte and every list of steps. -/
import Derived.Test.YtecjccjgcdnpnaaKp
import Derived.OpenShut
namespace Go.Proofs.Ytecjccjgcdnpnaa
open Go.RowKit
set_option linter.unusedSimpArgs false
set_option linter.unusedVariables false

theorem many16 (a : Nat) : ∃ N : Nat, (1 + (a : Int) % 16) = N ∧ 1 ≤ N ∧ N ≤ 16 := ⟨1 + a % 16, by omega, by omega, by omega⟩

set_option maxRecDepth 100000 in
set_option maxHeartbeats 1000000 in
theorem keys_big (a : Nat) (A : Option Addr) (n c : Nat) (w : World) (ha : a ≤ 255) (hn : 150 < n) :
    Calls Try.prog 10 #[.int .u8 a, .slice A n c] w fun e w' => e = .returned (.bool true) ∧ Below w.heap.size w w' := by
  obtain ⟨N, hN, h1, h2⟩ := many16 a
  go_enter Try.func10, Try.ntmps10
  go_wp2_with fail
  refine (new32 N _ h1 h2).mono ?_
  rintro e w1 ⟨cb, fb, rfl, HC, hcb, hfb, HB⟩
  go_wp2_with fail
  refine (wakes33 _).mono ?_
  rintro e w2 ⟨rfl, hb⟩
  go_wp2_with fail
  go_ret
  exact ⟨rfl, bel_step HB hb⟩

def fillI (n k : Nat) : List Int := (List.range n).map fun i => if i < k then -1 else 0
theorem fillI_get (n k i : Nat) (h : i < n) : (fillI n k)[i]? = some (if i < k then -1 else 0) := by simp [fillI, h]
theorem fillI_zero (n : Nat) : fillI n 0 = List.replicate n 0 := by
  apply List.ext_getElem?
  intro i
  by_cases hi : i < n <;> simp [fillI, hi]
theorem fillI_all (n : Nat) : fillI n n = List.replicate n (-1) := by
  apply List.ext_getElem?
  intro i
  by_cases hi : i < n <;> simp [fillI, hi]
theorem fillI_step (n k : Nat) (h : k < n) : (fillI n k).set k (-1) = fillI n (k + 1) := by
  apply List.ext_getElem?
  intro i
  rw [List.getElem?_set]
  by_cases hi : i < n
  · rw [fillI_get n k i hi, fillI_get n (k + 1) i hi]
    by_cases hk : k = i
    · subst hk; simp [fillI, h]
    · rw [if_neg hk]
      by_cases h2 : i < k
      · rw [if_pos h2, if_pos (by omega)]
      · rw [if_neg h2, if_neg (by omega)]
  · simp [fillI, hi]
    omega

set_option maxRecDepth 100000 in
set_option maxHeartbeats 40000000 in
theorem keys_main (a : Nat) (A : Option Addr) (c : Nat) (xs : List St) (w : World) (ha : a ≤ 255) (hx : RdS w A xs) (hn : xs.length ≤ 150) :
    Calls Try.prog 10 #[.int .u8 a, .slice A xs.length c] w fun e w' => e = .returned (.bool true) ∧ Below w.heap.size w w' := by
  obtain ⟨N, hN, h1, h2⟩ := many16 a
  have HX := Lib.hid hx
  clear hx
  go_enter Try.func10, Try.ntmps10
  go_wp2_with fail
  refine (new32 N _ h1 h2).mono ?_
  rintro e w1 ⟨cb, fb, rfl, HC, hcb, hfb, HB⟩
  have hmk := fun W => run_make_row' (P := Try.prog) 37 3 (.int .i64 0) 8 Try.underlying37 info3 rfl .i64 .i64 N (by omega) (by omega) W
  go_wp2_with fail
  clear hmk
  have C0 : Blk (w1.alloc (.cells (madeCells #[Value.int .i64 0] N) 3)) w1.heap.size 3 (iv (fillI N 0)) := by
    have := blk_new w1 3 (madeCells #[Value.int .i64 0] N)
    rw [fillI_zero, ← iv_made]
    exact this
  have hg1 : ¬ w1.heap.size = cb := by have := blk_lt HC.1; omega
  have hg2 : ¬ w1.heap.size = fb := by obtain ⟨_, ⟨cs, hf, _⟩, _⟩ := HC; have := blk_lt hf; omega
  have hg3 : ¬ cb = w1.heap.size := fun e => hg1 e.symm
  have hg4 : ¬ fb = w1.heap.size := fun e => hg2 e.symm
  have hw1 := HB.size
  have HC0 := Lib.hid (ca_keep HC (bel_box w1 (.cells (madeCells #[Value.int .i64 0] N) 3)))
  clear HC
  go_loopg [9] N (fun gk s9 wr => ∃ k : Nat, k ≤ N ∧ gk = N - k ∧ s9 = .int .i64 k ∧ Blk wr w1.heap.size 3 (iv (fillI N k)) ∧ CA wr cb fb (List.replicate N ⟨-1, false, 0⟩) 0 ∧ Below w1.heap.size w1 wr)
  case atStart => exact ⟨0, Nat.zero_le _, rfl, rfl, C0, HC0.out, bel_box w1 _⟩
  case round =>
    obtain ⟨k, hk, hgk, rfl, C, HC, HBr⟩ := hrel
    clear C0
    by_cases hlt : k < N
    · have z0 := blk_froz C k
      have y0 := blk_cell C k
      rw [iv_get, fillI_get N k k hlt] at y0
      simp at y0
      have q0 : (0 : Int) ≤ (k : Int) := Int.natCast_nonneg _
      have q1 : (k : Int) < (N : Int) := by omega
      have HCC := Lib.hid HC
      have C' := blk_set C k (.int .i64 (-1))
      rw [iv_set, fillI_step N k hlt] at C'
      have CC := Lib.hid C'
      clear C C' HC
      go_wp2_with fail
      go_roundg (N - (k + 1))
      case measure => omega
      case rel => exact ⟨k + 1, by omega, rfl, by go_num, CC.out, ca_far HCC.out hg1 hg2 _, bel_set HBr _ _ (Nat.le_refl _)⟩
    · obtain rfl : N = k := by omega
      rw [fillI_all] at C
      have CK : Blk wr w1.heap.size 3 (iv (keysOf (List.replicate N ⟨-1, false, 0⟩))) := by rw [keysOf, List.map_replicate]; exact C
      have HBB := Lib.hid (bel_step HB HBr)
      clear HB HBr C HC0 hgk hk hlt
      go_wp2_with fail
      go_loopg [10] xs.length (fun gk s10 wr' => ∃ (j : Nat) (fr : List Fr) (hand : Nat), j ≤ xs.length ∧ gk = xs.length - j ∧ s10 = .int .i64 j ∧ fr.length = N ∧ KInv fr ∧ Blk wr' w1.heap.size 3 (iv (keysOf fr)) ∧ CA wr' cb fb fr hand ∧ Below w.heap.size w wr')
      case atStart => exact ⟨0, _, 0, Nat.zero_le _, rfl, rfl, by simp, kinv_new _, CK, HC, HBB.out⟩
      case round =>
        clear CK HC HBB
        obtain ⟨j, fr, hand, hj, hgk, rfl, hlen, K, C, HC, HB2⟩ := hrel
        by_cases hlt : j < xs.length
        · obtain ⟨b, o, ⟨xk, xf, xy⟩, rfl, hxj, c0, c1, c2⟩ := rds_at (rds_keep HX.out HB2) hlt
          dsimp only at c0 c1 c2
          have q0 : (0 : Int) ≤ (j : Int) := Int.natCast_nonneg _
          have q1 : (j : Int) < (xs.length : Int) := by omega
          have HL := Lib.hid hlen
          have HK := Lib.hid K
          have HCC := Lib.hid HC
          have CC := Lib.hid C
          clear hxj K HC C hlen
          go_wp2_with fail
          obtain ⟨wx, hwx⟩ : ∃ wx, wx = wr.alloc (.cells #[.int .i64 xk, .int .i64 xf, .int .i64 xy] 52) := ⟨_, rfl⟩
          have BX : Blk wx wr.heap.size 52 #[.int .i64 xk, .int .i64 xf, .int .i64 xy] := by rw [hwx]; exact blk_new wr 52 _
          have CX := Lib.hid (show Blk wx w1.heap.size 3 (iv (keysOf fr)) by rw [hwx]; exact blk_alloc CC.out _)
          have HCX := Lib.hid (show CA wx cb fb fr hand by rw [hwx]; exact ca_keep HCC.out (bel_box wr _))
          have HBX := Lib.hid (show Below w.heap.size w wx by rw [hwx]; exact bel_new HB2 _)
          have BXX := Lib.hid BX
          have hz1 : ¬ wr.heap.size = cb := by have := blk_lt HCC.out.1; omega
          have hz2 : ¬ wr.heap.size = fb := by obtain ⟨_, ⟨cs, hf, _⟩, _⟩ := HCC.out; have := blk_lt hf; omega
          have hz3 : ¬ wr.heap.size = w1.heap.size := by have := blk_lt CC.out; omega
          have hz4 : w.heap.size ≤ wr.heap.size := HB2.size
          rw [← hwx]
          clear BX HCC CC hwx c0 c1 c2
          generalize wr.heap.size = bx at *
          clear HB2
          go_loopg [12, 13] N (fun gk s12 s13 wq => ∃ (k : Nat) (t : Int), k ≤ N ∧ gk = N - k ∧ s13 = .int .i64 k ∧ s12 = .int .i64 t ∧ Seen fr xy k t ∧ Below wx.heap.size wx wq)
          case atStart => exact ⟨0, -1, Nat.zero_le _, rfl, rfl, rfl, seen_zero _ _, Below.refl _ _⟩
          case round =>
            obtain ⟨k, t, hk, hgk, rfl, rfl, HS, HBq⟩ := hrel
            have x0 := blk_cell (blk_keep BXX.out HBq) 0
            have x1 := blk_cell (blk_keep BXX.out HBq) 1
            have x2 := blk_cell (blk_keep BXX.out HBq) 2
            simp at x0 x1 x2
            by_cases hlt2 : k < N
            · obtain ⟨f, hf⟩ : ∃ f, fr[k]? = some f := ⟨_, List.getElem?_eq_getElem (by rw [HL.out]; exact hlt2)⟩
              have y0 := blk_cell (blk_keep CX.out HBq) k
              rw [iv_get, keysOf_get hf] at y0
              simp at y0
              have HSS := Lib.hid HS
              have HF := Lib.hid hf
              have p0 : (0 : Int) ≤ (k : Int) := Int.natCast_nonneg _
              have p1 : (k : Int) < (N : Int) := by omega
              clear HS hf
              by_cases hk0 : 0 ≤ xy
              · by_cases he : f.key = xy
                · have e1 : (f.key == xy) = true := by simp [he]
                  have e2 : decide (xy ≥ 0) = true := by simpa using hk0
                  have HE := Lib.hid he
                  clear he
                  go_wp2_with fail
                  go_quiet (fail)
                  go_wp2_with fail
                  go_roundg (N - (k + 1))
                  case measure => omega
                  case rel => exact ⟨k + 1, (k : Int), by omega, rfl, by go_num, rfl, seen_hit hk0 HF.out HE.out, bel_draw HBq _⟩
                · have e1 : (f.key == xy) = false := by simp [he]
                  have e2 : decide (xy ≥ 0) = true := by simpa using hk0
                  have HE := Lib.hid he
                  clear he
                  go_wp2_with fail
                  go_quiet (fail)
                  go_wp2_with fail
                  go_roundg (N - (k + 1))
                  case measure => omega
                  case rel => exact ⟨k + 1, t, by omega, rfl, by go_num, rfl, seen_miss HSS.out HF.out (fun q => HE.out q.2), bel_draw HBq _⟩
              · have e2 : decide (xy ≥ 0) = false := by simp; omega
                go_wp2_with fail
                go_quiet (fail)
                go_wp2_with fail
                go_roundg (N - (k + 1))
                case measure => omega
                case rel => exact ⟨k + 1, t, by omega, rfl, by go_num, rfl, seen_miss HSS.out HF.out (fun q => absurd q.1 (by omega)), bel_draw HBq _⟩
            · obtain rfl : N = k := by omega
              have CQ := Lib.hid (blk_keep CX.out HBq)
              have HCQ := Lib.hid (ca_keep HCX.out HBq)
              have HBQ := Lib.hid (bel_step HBX.out HBq)
              have BXQ := Lib.hid (blk_keep BXX.out HBq)
              rw [← HL.out] at HS
              have HSE := Lib.hid (seen_end HK.out HS)
              clear HS CX HCX HBX BXX HBq hlt2 hk hgk
              go_wp2_with fail
              refine (find35 cb fb fr hand xy _ HCQ.out).mono ?_
              rintro e w5 ⟨rfl, hb⟩
              have CC5 := Lib.hid (blk_keep CQ.out hb)
              have HC5 := Lib.hid (ca_keep HCQ.out hb)
              have HB5 := Lib.hid (bel_step HBQ.out hb)
              have BX5 := Lib.hid (blk_keep BXQ.out hb)
              have hse := HSE.out
              clear hb CQ HCQ HBQ BXQ HSE
              generalize hFR : findR fr xy = o1 at *
              have HSE := Lib.hid hse
              have HFR := Lib.hid hFR
              clear hse hFR
              go_upto_region 21 with fail
              go_cut [105] (fun s wx => s = .bool false ∧ KSt w w1.heap.size bx cb fb (keysOf fr) fr hand xk xf xy wx)
              case first => as_aux_lemma =>
                rcases HSE.out with ⟨rfl, rfl⟩ | ⟨j', rfl, hj', hk0, rfl, hFF⟩
                · clear HSE
                  go_wp2_with fail
                  go_meet
                  exact ⟨rfl, CC5.out, HC5.out, HB5.out, BX5.out⟩
                · have q7 : (0 : Int) ≤ (j' : Int) := Int.natCast_nonneg _
                  have e9 : ((j' : Int) != (j' : Int)) = false := by simp
                  clear HSE hFF
                  go_wp2_with fail
                  go_meet
                  exact ⟨rfl, CC5.out, HC5.out, HB5.out, BX5.out⟩
              case rest =>
                obtain ⟨rfl, c5, h5, b5, x5⟩ := hcut
                clear CC5 HC5 HB5 BX5
                have CC5 := Lib.hid c5
                have HC5 := Lib.hid h5
                have HB5 := Lib.hid b5
                have BX5 := Lib.hid x5
                clear c5 h5 b5 x5
                go_upto_region 23 with fail
                go_cut [16] (fun s wx => s = .bool (inN N xf) ∧ KSt w w1.heap.size bx cb fb (keysOf fr) fr hand xk xf xy wx)
                case first => as_aux_lemma =>
                  have x1 := blk_cell BX5.out 1
                  simp at x1
                  by_cases hlo : xf < 0
                  · have e10 : decide (xf ≥ 0) = false := by simp; omega
                    go_wp2_with fail
                    go_meet
                    exact ⟨congrArg Value.bool (inN_out (.inl hlo)).symm, CC5.out, HC5.out, HB5.out, BX5.out⟩
                  · by_cases hhi : (N : Int) ≤ xf
                    · have e10 : decide (xf < (N : Int)) = false := decide_eq_false (by omega)
                      go_wp2_with fail
                      go_meet
                      exact ⟨congrArg Value.bool (inN_out (.inr hhi)).symm, CC5.out, HC5.out, HB5.out, BX5.out⟩
                    · have e10 : decide (xf < (N : Int)) = true := decide_eq_true (by omega)
                      go_wp2_with fail
                      go_meet
                      exact ⟨congrArg Value.bool (show inN N xf = true from decide_eq_true (by omega)).symm, CC5.out, HC5.out, HB5.out, BX5.out⟩
                case rest =>
                  obtain ⟨rfl, c5, h5, b5, x5⟩ := hcut
                  generalize hp : inN N xf = p at *
                  have HP := Lib.hid hp
                  clear hp
                  clear CC5 HC5 HB5 BX5
                  have CC5 := Lib.hid c5
                  have HC5 := Lib.hid h5
                  have HB5 := Lib.hid b5
                  have BX5 := Lib.hid x5
                  clear c5 h5 b5 x5
                  by_cases hk4 : xk = 4
                  · have e4 : (xk == 4) = true := by simp [hk4]
                    by_cases hio : xf < 0 ∨ (N : Int) ≤ xf
                    · obtain rfl := HP.out.symm.trans (inN_out hio)
                      have h6 := drop40 cb fb fr hand xf _ HC5.out
                      rw [show dropR fr xf = (false, fr) from drop_out (by rw [HL.out]; exact hio)] at h6
                      have H6 := Lib.hid h6
                      clear h6
                      have x0 := blk_cell BX5.out 0
                      have x1 := blk_cell BX5.out 1
                      have x2 := blk_cell BX5.out 2
                      simp at x0 x1 x2
                      clear hio
                      go_wp2_with fail
                      refine H6.out.mono ?_
                      rintro e w6 ⟨rfl, HC6', HO⟩
                      try dsimp only at HC6'
                      have HC6 := Lib.hid HC6'
                      have CC6 := Lib.hid (blk_only CC5.out HO hg1 hg2)
                      have BX6 := Lib.hid (blk_only BX5.out HO hz1 hz2)
                      have HB6 := Lib.hid (only_below HB5.out HO hcb hfb (Nat.le_refl _))
                      have x0 := blk_cell BX6.out 0
                      have x1 := blk_cell BX6.out 1
                      have x2 := blk_cell BX6.out 2
                      simp at x0 x1 x2
                      clear HC6' HO CC5 BX5 HB5 HC5
                      go_wp2_with fail
                      go_roundg (xs.length - (j + 1))
                      case measure => omega
                      case rel => exact ⟨j + 1, fr, hand, by omega, rfl, by go_num, HL.out, HK.out, CC6.out, HC6.out, HB6.out⟩
                    · obtain ⟨i, rfl⟩ := Int.eq_ofNat_of_zero_le (show 0 ≤ xf by omega)
                      have hin : i < N := by omega
                      obtain rfl := HP.out.symm.trans (inN_in hin)
                      have q5 : (0 : Int) ≤ (i : Int) := Int.natCast_nonneg _
                      have q6 : (i : Int) < (N : Int) := by omega
                      obtain ⟨f, hf⟩ : ∃ f, fr[i]? = some f := ⟨_, List.getElem?_eq_getElem (by rw [HL.out]; exact hin)⟩
                      have HFI := Lib.hid hf
                      clear hf
                      have h6 := drop40 cb fb fr hand (i : Int) _ HC5.out
                      rw [show dropR fr (i : Int) = (true, fr.set i ⟨-1, false, 0⟩) from drop_in HFI.out (HK.out.pins _ _ HFI.out)] at h6
                      have H6 := Lib.hid h6
                      clear h6
                      have x0 := blk_cell BX5.out 0
                      have x1 := blk_cell BX5.out 1
                      have x2 := blk_cell BX5.out 2
                      simp at x0 x1 x2
                      clear hio
                      go_wp2_with fail
                      refine H6.out.mono ?_
                      rintro e w6 ⟨rfl, HC6', HO⟩
                      try dsimp only at HC6'
                      have HC6 := Lib.hid HC6'
                      have CC6 := Lib.hid (blk_only CC5.out HO hg1 hg2)
                      have BX6 := Lib.hid (blk_only BX5.out HO hz1 hz2)
                      have HB6 := Lib.hid (only_below HB5.out HO hcb hfb (Nat.le_refl _))
                      have x0 := blk_cell BX6.out 0
                      have x1 := blk_cell BX6.out 1
                      have x2 := blk_cell BX6.out 2
                      simp at x0 x1 x2
                      clear HC6' HO CC5 BX5 HB5 HC5
                      have z0 := blk_froz CC6.out i
                      have y0 := blk_cell CC6.out i
                      rw [iv_get, keysOf_get HFI.out] at y0
                      simp at y0
                      go_wp2_with fail
                      have C8' := blk_set CC6.out i (.int .i64 (-1))
                      rw [iv_set, show (keysOf fr).set i (-1) = keysOf (fr.set i ⟨-1, false, 0⟩) from by rw [keysOf_set]] at C8'
                      have CC8 := Lib.hid C8'
                      have HC8 := Lib.hid (ca_far HC6.out (p := ⟨w1.heap.size, i, none⟩) hg1 hg2 (.int .i64 (-1)))
                      have HB8 := Lib.hid (bel_set HB6.out ⟨w1.heap.size, i, none⟩ (.int .i64 (-1)) hw1)
                      have HL8 := Lib.hid (show (fr.set i ⟨-1, false, 0⟩).length = N by rw [List.length_set]; exact HL.out)
                      have HK8 : Hid (KInv (fr.set i ⟨-1, false, 0⟩)) := Lib.hid (kinv_drop HK.out)
                      clear C8' y0 z0 HK HL
                      go_roundg (xs.length - (j + 1))
                      case measure => omega
                      case rel => exact ⟨j + 1, (fr.set i ⟨-1, false, 0⟩), hand, by omega, rfl, by go_num, HL8.out, HK8.out, CC8.out, HC8.out, HB8.out⟩
                  · have e4 : (xk == 4) = false := by simp [hk4]
                    have x0 := blk_cell BX5.out 0
                    simp at x0
                    go_upto_region 29 with fail
                    clear x0
                    go_cut [151] (fun s wx => s = .bool false ∧ KSt w w1.heap.size bx cb fb (keysOf fr) (putR fr xf xy).2 hand xk xf xy wx)
                    case first => as_aux_lemma =>
                      by_cases hio : xf < 0 ∨ (N : Int) ≤ xf
                      · obtain rfl := HP.out.symm.trans (inN_out hio)
                        have R6 := Lib.hid (show putR fr xf xy = (false, fr) from put_out _ (by rw [HL.out]; exact hio))
                        have h6 := put36 cb fb fr hand xf xy _ HC5.out
                        rw [show putR fr xf xy = (false, fr) from put_out _ (by rw [HL.out]; exact hio)] at h6
                        have H6 := Lib.hid h6
                        clear h6
                        have x0 := blk_cell BX5.out 0
                        have x1 := blk_cell BX5.out 1
                        have x2 := blk_cell BX5.out 2
                        simp at x0 x1 x2
                        (try clear hk0)
                        (try clear hF)
                        (try clear hFF)
                        (try clear hne)
                        (try clear hj')
                        clear HSE
                        go_wp2_with fail
                        refine H6.out.mono ?_
                        rintro e w6 ⟨rfl, HC6', HO⟩
                        try dsimp only at HC6'
                        have HC6 := Lib.hid HC6'
                        have CC6 := Lib.hid (blk_only CC5.out HO hg1 hg2)
                        have BX6 := Lib.hid (blk_only BX5.out HO hz1 hz2)
                        have HB6 := Lib.hid (only_below HB5.out HO hcb hfb (Nat.le_refl _))
                        have x0 := blk_cell BX6.out 0
                        have x1 := blk_cell BX6.out 1
                        have x2 := blk_cell BX6.out 2
                        simp at x0 x1 x2
                        clear HC6' HO CC5 BX5 HB5 HC5
                        go_wp2_with fail
                        go_meet
                        rw [R6.out]
                        exact ⟨rfl, CC6.out, HC6.out, HB6.out, BX6.out⟩
                      · obtain ⟨i, rfl⟩ := Int.eq_ofNat_of_zero_le (show 0 ≤ xf by omega)
                        have hin : i < N := by omega
                        obtain rfl := HP.out.symm.trans (inN_in hin)
                        have q5 : (0 : Int) ≤ (i : Int) := Int.natCast_nonneg _
                        have q6 : (i : Int) < (N : Int) := by omega
                        obtain ⟨f, hf⟩ : ∃ f, fr[i]? = some f := ⟨_, List.getElem?_eq_getElem (by rw [HL.out]; exact hin)⟩
                        have HFI := Lib.hid hf
                        clear hf
                        clear hio
                        by_cases hk1 : xy < 0
                        · have R6 := Lib.hid (show putR fr (i : Int) xy = (false, fr) from put_neg HFI.out hk1)
                          have h6 := put36 cb fb fr hand (i : Int) xy _ HC5.out
                          rw [show putR fr (i : Int) xy = (false, fr) from put_neg HFI.out hk1] at h6
                          have H6 := Lib.hid h6
                          clear h6
                          have x0 := blk_cell BX5.out 0
                          have x1 := blk_cell BX5.out 1
                          have x2 := blk_cell BX5.out 2
                          simp at x0 x1 x2
                          (try clear hk0)
                          (try clear hF)
                          (try clear hFF)
                          (try clear hne)
                          (try clear hj')
                          clear HSE
                          go_wp2_with fail
                          refine H6.out.mono ?_
                          rintro e w6 ⟨rfl, HC6', HO⟩
                          try dsimp only at HC6'
                          have HC6 := Lib.hid HC6'
                          have CC6 := Lib.hid (blk_only CC5.out HO hg1 hg2)
                          have BX6 := Lib.hid (blk_only BX5.out HO hz1 hz2)
                          have HB6 := Lib.hid (only_below HB5.out HO hcb hfb (Nat.le_refl _))
                          have x0 := blk_cell BX6.out 0
                          have x1 := blk_cell BX6.out 1
                          have x2 := blk_cell BX6.out 2
                          simp at x0 x1 x2
                          clear HC6' HO CC5 BX5 HB5 HC5
                          go_wp2_with fail
                          go_meet
                          rw [R6.out]
                          exact ⟨rfl, CC6.out, HC6.out, HB6.out, BX6.out⟩
                        · have hk1 : 0 ≤ xy := by omega
                          have hF := HFR.out
                          rcases HSE.out with ⟨rfl, rfl⟩ | ⟨j', rfl, hj', hk0, rfl, hFF⟩
                          · have R6 := Lib.hid (show putR fr (i : Int) xy = (true, fr.set i ⟨xy, true, 0⟩) from put_ok HFI.out hk1 (HK.out.pins _ _ HFI.out) (.inl ((findR_nn hk1).symm.trans hF)))
                            have h6 := put36 cb fb fr hand (i : Int) xy _ HC5.out
                            rw [show putR fr (i : Int) xy = (true, fr.set i ⟨xy, true, 0⟩) from put_ok HFI.out hk1 (HK.out.pins _ _ HFI.out) (.inl ((findR_nn hk1).symm.trans hF))] at h6
                            have H6 := Lib.hid h6
                            clear h6
                            have x0 := blk_cell BX5.out 0
                            have x1 := blk_cell BX5.out 1
                            have x2 := blk_cell BX5.out 2
                            simp at x0 x1 x2
                            (try clear hk0)
                            (try clear hF)
                            (try clear hFF)
                            (try clear hne)
                            (try clear hj')
                            clear HSE
                            go_wp2_with fail
                            refine H6.out.mono ?_
                            rintro e w6 ⟨rfl, HC6', HO⟩
                            try dsimp only at HC6'
                            have HC6 := Lib.hid HC6'
                            have CC6 := Lib.hid (blk_only CC5.out HO hg1 hg2)
                            have BX6 := Lib.hid (blk_only BX5.out HO hz1 hz2)
                            have HB6 := Lib.hid (only_below HB5.out HO hcb hfb (Nat.le_refl _))
                            have x0 := blk_cell BX6.out 0
                            have x1 := blk_cell BX6.out 1
                            have x2 := blk_cell BX6.out 2
                            simp at x0 x1 x2
                            clear HC6' HO CC5 BX5 HB5 HC5
                            go_wp2_with fail
                            go_meet
                            rw [R6.out]
                            exact ⟨rfl, CC6.out, HC6.out, HB6.out, BX6.out⟩
                          · have q7 : (0 : Int) ≤ (j' : Int) := Int.natCast_nonneg _
                            by_cases hne : j' = i
                            · obtain rfl : i = j' := hne.symm
                              have e8 : ((i : Int) == (i : Int)) = true := by simp
                              have R6 := Lib.hid (show putR fr (i : Int) xy = (true, fr.set i ⟨xy, true, 0⟩) from put_ok HFI.out hk1 (HK.out.pins _ _ HFI.out) (.inr hFF))
                              have h6 := put36 cb fb fr hand (i : Int) xy _ HC5.out
                              rw [show putR fr (i : Int) xy = (true, fr.set i ⟨xy, true, 0⟩) from put_ok HFI.out hk1 (HK.out.pins _ _ HFI.out) (.inr hFF)] at h6
                              have H6 := Lib.hid h6
                              clear h6
                              have x0 := blk_cell BX5.out 0
                              have x1 := blk_cell BX5.out 1
                              have x2 := blk_cell BX5.out 2
                              simp at x0 x1 x2
                              (try clear hk0)
                              (try clear hF)
                              (try clear hFF)
                              (try clear hne)
                              (try clear hj')
                              clear HSE
                              go_wp2_with fail
                              refine H6.out.mono ?_
                              rintro e w6 ⟨rfl, HC6', HO⟩
                              try dsimp only at HC6'
                              have HC6 := Lib.hid HC6'
                              have CC6 := Lib.hid (blk_only CC5.out HO hg1 hg2)
                              have BX6 := Lib.hid (blk_only BX5.out HO hz1 hz2)
                              have HB6 := Lib.hid (only_below HB5.out HO hcb hfb (Nat.le_refl _))
                              have x0 := blk_cell BX6.out 0
                              have x1 := blk_cell BX6.out 1
                              have x2 := blk_cell BX6.out 2
                              simp at x0 x1 x2
                              clear HC6' HO CC5 BX5 HB5 HC5
                              go_wp2_with fail
                              go_meet
                              rw [R6.out]
                              exact ⟨rfl, CC6.out, HC6.out, HB6.out, BX6.out⟩
                            · have e8 : ((j' : Int) == (i : Int)) = false := beq_eq_false_iff_ne.2 (by omega)
                              have R6 := Lib.hid (show putR fr (i : Int) xy = (false, fr) from put_other HFI.out hFF hne)
                              have h6 := put36 cb fb fr hand (i : Int) xy _ HC5.out
                              rw [show putR fr (i : Int) xy = (false, fr) from put_other HFI.out hFF hne] at h6
                              have H6 := Lib.hid h6
                              clear h6
                              have x0 := blk_cell BX5.out 0
                              have x1 := blk_cell BX5.out 1
                              have x2 := blk_cell BX5.out 2
                              simp at x0 x1 x2
                              (try clear hk0)
                              (try clear hF)
                              (try clear hFF)
                              (try clear hne)
                              (try clear hj')
                              clear HSE
                              go_wp2_with fail
                              refine H6.out.mono ?_
                              rintro e w6 ⟨rfl, HC6', HO⟩
                              try dsimp only at HC6'
                              have HC6 := Lib.hid HC6'
                              have CC6 := Lib.hid (blk_only CC5.out HO hg1 hg2)
                              have BX6 := Lib.hid (blk_only BX5.out HO hz1 hz2)
                              have HB6 := Lib.hid (only_below HB5.out HO hcb hfb (Nat.le_refl _))
                              have x0 := blk_cell BX6.out 0
                              have x1 := blk_cell BX6.out 1
                              have x2 := blk_cell BX6.out 2
                              simp at x0 x1 x2
                              clear HC6' HO CC5 BX5 HB5 HC5
                              go_wp2_with fail
                              go_meet
                              rw [R6.out]
                              exact ⟨rfl, CC6.out, HC6.out, HB6.out, BX6.out⟩
                    case rest =>
                      obtain ⟨rfl, c5, h5, b5, x5⟩ := hcut
                      clear CC5 HC5 HB5 BX5
                      have CC6 := Lib.hid c5
                      have HC6 := Lib.hid h5
                      have HB6 := Lib.hid b5
                      have BX6 := Lib.hid x5
                      clear c5 h5 b5 x5
                      have x0 := blk_cell BX6.out 0
                      have x1 := blk_cell BX6.out 1
                      have x2 := blk_cell BX6.out 2
                      simp at x0 x1 x2
                      go_upto_region 31 with fail
                      go_cut [167] (fun s wx => s = .bool (putR fr xf xy).1 ∧ KSt w w1.heap.size bx cb fb (keysOf fr) (putR fr xf xy).2 hand xk xf xy wx)
                      case first => as_aux_lemma =>
                        by_cases hio : xf < 0 ∨ (N : Int) ≤ xf
                        · obtain rfl := HP.out.symm.trans (inN_out hio)
                          go_wp2_with fail
                          go_meet
                          exact ⟨congrArg (fun p => Value.bool p.1) (show putR fr xf xy = (false, fr) from put_out _ (by rw [HL.out]; exact hio)).symm, CC6.out, HC6.out, HB6.out, BX6.out⟩
                        · obtain ⟨i, rfl⟩ := Int.eq_ofNat_of_zero_le (show 0 ≤ xf by omega)
                          have hin : i < N := by omega
                          obtain rfl := HP.out.symm.trans (inN_in hin)
                          have q5 : (0 : Int) ≤ (i : Int) := Int.natCast_nonneg _
                          have q6 : (i : Int) < (N : Int) := by omega
                          obtain ⟨f, hf⟩ : ∃ f, fr[i]? = some f := ⟨_, List.getElem?_eq_getElem (by rw [HL.out]; exact hin)⟩
                          have HFI := Lib.hid hf
                          clear hf
                          clear hio
                          by_cases hk1 : xy < 0
                          · go_wp2_with fail
                            go_meet
                            exact ⟨congrArg (fun p => Value.bool p.1) (show putR fr (i : Int) xy = (false, fr) from put_neg HFI.out hk1).symm, CC6.out, HC6.out, HB6.out, BX6.out⟩
                          · have hk1 : 0 ≤ xy := by omega
                            have hF := HFR.out
                            rcases HSE.out with ⟨rfl, rfl⟩ | ⟨j', rfl, hj', hk0, rfl, hFF⟩
                            · go_wp2_with fail
                              go_meet
                              exact ⟨congrArg (fun p => Value.bool p.1) (show putR fr (i : Int) xy = (true, fr.set i ⟨xy, true, 0⟩) from put_ok HFI.out hk1 (HK.out.pins _ _ HFI.out) (.inl ((findR_nn hk1).symm.trans hF))).symm, CC6.out, HC6.out, HB6.out, BX6.out⟩
                            · have q7 : (0 : Int) ≤ (j' : Int) := Int.natCast_nonneg _
                              by_cases hne : j' = i
                              · obtain rfl : i = j' := hne.symm
                                have e8 : ((i : Int) == (i : Int)) = true := by simp
                                go_wp2_with fail
                                go_meet
                                exact ⟨congrArg (fun p => Value.bool p.1) (show putR fr (i : Int) xy = (true, fr.set i ⟨xy, true, 0⟩) from put_ok HFI.out hk1 (HK.out.pins _ _ HFI.out) (.inr hFF)).symm, CC6.out, HC6.out, HB6.out, BX6.out⟩
                              · have e8 : ((j' : Int) == (i : Int)) = false := beq_eq_false_iff_ne.2 (by omega)
                                go_wp2_with fail
                                go_meet
                                exact ⟨congrArg (fun p => Value.bool p.1) (show putR fr (i : Int) xy = (false, fr) from put_other HFI.out hFF hne).symm, CC6.out, HC6.out, HB6.out, BX6.out⟩
                      case rest =>
                        obtain ⟨rfl, c5, h5, b5, x5⟩ := hcut
                        clear CC6 HC6 HB6 BX6 x0 x1 x2
                        have CC6 := Lib.hid c5
                        have HC6 := Lib.hid h5
                        have HB6 := Lib.hid b5
                        have BX6 := Lib.hid x5
                        clear c5 h5 b5 x5
                        have x0 := blk_cell BX6.out 0
                        have x1 := blk_cell BX6.out 1
                        have x2 := blk_cell BX6.out 2
                        simp at x0 x1 x2
                        go_upto_if 167 with fail
                        go_cut [168] (fun s wx => ∃ fr2, fr2.length = N ∧ KInv fr2 ∧ Blk wx w1.heap.size 3 (iv (keysOf fr2)) ∧ CA wx cb fb fr2 hand ∧ Below w.heap.size w wx)
                        case first => as_aux_lemma =>
                          by_cases hio : xf < 0 ∨ (N : Int) ≤ xf
                          · obtain rfl := HP.out.symm.trans (inN_out hio)
                            rw [show putR fr xf xy = (false, fr) from put_out _ (by rw [HL.out]; exact hio)] at HC6 ⊢
                            go_wp2_with fail
                            go_meet
                            exact ⟨_, HL.out, HK.out, CC6.out, HC6.out, HB6.out⟩
                          · obtain ⟨i, rfl⟩ := Int.eq_ofNat_of_zero_le (show 0 ≤ xf by omega)
                            have hin : i < N := by omega
                            obtain rfl := HP.out.symm.trans (inN_in hin)
                            have q5 : (0 : Int) ≤ (i : Int) := Int.natCast_nonneg _
                            have q6 : (i : Int) < (N : Int) := by omega
                            obtain ⟨f, hf⟩ : ∃ f, fr[i]? = some f := ⟨_, List.getElem?_eq_getElem (by rw [HL.out]; exact hin)⟩
                            have HFI := Lib.hid hf
                            clear hf
                            clear hio
                            by_cases hk1 : xy < 0
                            · rw [show putR fr (i : Int) xy = (false, fr) from put_neg HFI.out hk1] at HC6 ⊢
                              go_wp2_with fail
                              go_meet
                              exact ⟨_, HL.out, HK.out, CC6.out, HC6.out, HB6.out⟩
                            · have hk1 : 0 ≤ xy := by omega
                              have hF := HFR.out
                              rcases HSE.out with ⟨rfl, rfl⟩ | ⟨j', rfl, hj', hk0, rfl, hFF⟩
                              · rw [show putR fr (i : Int) xy = (true, fr.set i ⟨xy, true, 0⟩) from put_ok HFI.out hk1 (HK.out.pins _ _ HFI.out) (.inl ((findR_nn hk1).symm.trans hF))] at HC6 ⊢
                                have z0 := blk_froz CC6.out i
                                have y0 := blk_cell CC6.out i
                                rw [iv_get, keysOf_get HFI.out] at y0
                                simp at y0
                                go_wp2_with fail
                                have C8' := blk_set CC6.out i (.int .i64 (xy))
                                rw [iv_set, show (keysOf fr).set i (xy) = keysOf (fr.set i ⟨xy, true, 0⟩) from by rw [keysOf_set]] at C8'
                                have CC8 := Lib.hid C8'
                                have HC8 := Lib.hid (ca_far HC6.out (p := ⟨w1.heap.size, i, none⟩) hg1 hg2 (.int .i64 (xy)))
                                have HB8 := Lib.hid (bel_set HB6.out ⟨w1.heap.size, i, none⟩ (.int .i64 (xy)) hw1)
                                have HL8 := Lib.hid (show (fr.set i ⟨xy, true, 0⟩).length = N by rw [List.length_set]; exact HL.out)
                                have HK8 : Hid (KInv (fr.set i ⟨xy, true, 0⟩)) := Lib.hid (kinv_put HK.out hk1 (.inl ((findR_nn hk1).symm.trans hF)))
                                clear C8' y0 z0 HK HL
                                go_meet
                                exact ⟨_, HL8.out, HK8.out, CC8.out, HC8.out, HB8.out⟩
                              · have q7 : (0 : Int) ≤ (j' : Int) := Int.natCast_nonneg _
                                by_cases hne : j' = i
                                · obtain rfl : i = j' := hne.symm
                                  have e8 : ((i : Int) == (i : Int)) = true := by simp
                                  rw [show putR fr (i : Int) xy = (true, fr.set i ⟨xy, true, 0⟩) from put_ok HFI.out hk1 (HK.out.pins _ _ HFI.out) (.inr hFF)] at HC6 ⊢
                                  have z0 := blk_froz CC6.out i
                                  have y0 := blk_cell CC6.out i
                                  rw [iv_get, keysOf_get HFI.out] at y0
                                  simp at y0
                                  go_wp2_with fail
                                  have C8' := blk_set CC6.out i (.int .i64 (xy))
                                  rw [iv_set, show (keysOf fr).set i (xy) = keysOf (fr.set i ⟨xy, true, 0⟩) from by rw [keysOf_set]] at C8'
                                  have CC8 := Lib.hid C8'
                                  have HC8 := Lib.hid (ca_far HC6.out (p := ⟨w1.heap.size, i, none⟩) hg1 hg2 (.int .i64 (xy)))
                                  have HB8 := Lib.hid (bel_set HB6.out ⟨w1.heap.size, i, none⟩ (.int .i64 (xy)) hw1)
                                  have HL8 := Lib.hid (show (fr.set i ⟨xy, true, 0⟩).length = N by rw [List.length_set]; exact HL.out)
                                  have HK8 : Hid (KInv (fr.set i ⟨xy, true, 0⟩)) := Lib.hid (kinv_put HK.out hk1 (.inr hFF))
                                  clear C8' y0 z0 HK HL
                                  go_meet
                                  exact ⟨_, HL8.out, HK8.out, CC8.out, HC8.out, HB8.out⟩
                                · have e8 : ((j' : Int) == (i : Int)) = false := beq_eq_false_iff_ne.2 (by omega)
                                  rw [show putR fr (i : Int) xy = (false, fr) from put_other HFI.out hFF hne] at HC6 ⊢
                                  go_wp2_with fail
                                  go_meet
                                  exact ⟨_, HL.out, HK.out, CC6.out, HC6.out, HB6.out⟩
                        case rest => as_aux_lemma =>
                          obtain ⟨fr2, hl2, hk2, C8, H8, B8⟩ := hcut
                          have HL8 := Lib.hid hl2
                          have HK8 := Lib.hid hk2
                          clear HL HK HSE HFR HP CC6 HC6 HB6 BX6 x0 x1 x2 hl2 hk2
                          go_wp2_with fail
                          go_loopg [17] N (fun gk s17 wq => ∃ (k : Nat), k ≤ N ∧ gk = N - k ∧ s17 = .int .i64 k ∧ Blk wq w1.heap.size 3 (iv (keysOf fr2)) ∧ CA wq cb fb fr2 hand ∧ Below w.heap.size w wq)
                          case atStart => exact ⟨0, Nat.zero_le _, rfl, rfl, C8, H8, B8⟩
                          case round =>
                            clear C8 H8 B8
                            obtain ⟨k, hk, hgk, rfl, C9, H9, B9⟩ := hrel
                            have CC9 := Lib.hid C9
                            have HC9 := Lib.hid H9
                            have HB9 := Lib.hid B9
                            clear C9 H9 B9
                            by_cases hlt2 : k < N
                            · obtain ⟨f, hf⟩ : ∃ f, fr2[k]? = some f := ⟨_, List.getElem?_eq_getElem (by rw [HL8.out]; exact hlt2)⟩
                              have y0 := blk_cell CC9.out k
                              rw [iv_get, keysOf_get hf] at y0
                              simp at y0
                              have h7 := key41 cb fb fr2 hand (k : Int) _ HC9.out
                              have hk2 := HK8.out.keys _ _ hf
                              have p0 : (0 : Int) ≤ (k : Int) := Int.natCast_nonneg _
                              have p1 : (k : Int) < (N : Int) := by omega
                              by_cases hk3 : 0 ≤ f.key
                              · rw [key_some hf hk3] at h7
                                have H7 := Lib.hid h7
                                have e5 : (f.key != f.key) = false := by simp
                                clear h7 hf
                                go_wp2_with fail
                                refine H7.out.mono ?_
                                rintro e w9 ⟨rfl, rfl⟩
                                clear H7
                                go_wp2_with fail
                                go_roundg (N - (k + 1))
                                case measure => omega
                                case rel => exact ⟨k + 1, by omega, rfl, by go_num, CC9.out, HC9.out, HB9.out⟩
                              · rw [key_none hf (by omega)] at h7
                                have H7 := Lib.hid h7
                                clear h7 hf
                                go_wp2_with fail
                                refine H7.out.mono ?_
                                rintro e w9 ⟨rfl, rfl⟩
                                clear H7
                                go_wp2_with fail
                                go_roundg (N - (k + 1))
                                case measure => omega
                                case rel => exact ⟨k + 1, by omega, rfl, by go_num, CC9.out, HC9.out, HB9.out⟩
                            · go_wp2_with fail
                              go_roundg (xs.length - (j + 1))
                              case measure => omega
                              case rel => exact ⟨j + 1, fr2, hand, by omega, rfl, by go_num, HL8.out, HK8.out, CC9.out, HC9.out, HB9.out⟩
        · go_wp2_with fail
          refine (wakes33 _).mono ?_
          rintro e w9 ⟨rfl, hb⟩
          go_wp2_with fail
          go_ret
          exact ⟨rfl, bel_step HB2 hb⟩

theorem clockKeys (n : Int) (A : Option Addr) (len c : Nat) (zs : List St) (w : World) (h1 : (Lit.int .u8 n).wf = true) (h2 : StRow w A len c zs) :
    Calls Try.prog 10 #[.int .u8 n, .slice A len c] w fun e w' => e = .returned (.bool true) ∧ Below w.heap.size w w' := by
  obtain ⟨hn0, hn1⟩ := bounds_u8 h1
  obtain ⟨a, rfl⟩ := Int.eq_ofNat_of_zero_le hn0
  obtain ⟨hr, rfl, _, _⟩ := rds_of_row h2
  by_cases hb : 150 < zs.length
  · exact keys_big a A _ c w (by omega) hb
  · exact keys_main a A c zs w (by omega) hr (by omega)
end Go.Proofs.Ytecjccjgcdnpnaa
