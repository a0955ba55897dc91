/- The law ClockTurns holds of every two bytes and every list of bools. -/
import Derived.Test.YtecjccjgcdnpnaaKt
import Derived.OpenShut
namespace Go.Proofs.Ytecjccjgcdnpnaa
open Go.RowKit
set_option linter.unusedSimpArgs false
set_option linter.unusedVariables false

theorem own_cells {w : World} {B g c : Nat} {xs : List Int} (h : w.ownsRow B 3 1 (.slice (some ⟨g, 0, none⟩) xs.length c) xs.length (xs.map (Value.int .i64))) {i : Nat} {x : Int} (hx : xs[i]? = some x) : w.cell? ⟨g, i, none⟩ = some (.int .i64 x) := by
  have hi : i < xs.length := (List.getElem?_eq_some_iff.1 hx).1
  rw [h.cellAt i (by omega), List.getElem?_map, hx]
  rfl
theorem ca_under {w w' : World} {cb fb B : Nat} {fr : List Fr} {hand : Nat} (h : CA w cb fb fr hand) (hb : Below B w w') (h1 : cb < B) (h2 : fb < B) : CA w' cb fb fr hand := by
  obtain ⟨hc, ⟨cs, hf, hx⟩, hl⟩ := h
  exact ⟨blk_below hc hb h1, ⟨cs, blk_below hf hb h2, hx⟩, hl⟩

set_option maxRecDepth 100000 in
set_option maxHeartbeats 1000000 in
theorem turns_few (a t : Nat) (A : Option Addr) (n c : Nat) (w : World) (ha : a ≤ 255) (hn : (n : Int) < 2 + (a : Int) % 15) :
    Calls Try.prog 13 #[.int .u8 a, .slice A n c, .int .u8 t] w fun e w' => e = .returned (.bool true) ∧ Below w.heap.size w w' := by
  obtain ⟨N, hN, h1, h2⟩ := many15 a
  rw [hN] at hn
  go_enter Try.func13, Try.ntmps13
  go_wp2_with fail
  refine (new32 N _ (by omega) h2).mono ?_
  rintro e w1 ⟨cb, fb, rfl, HC, hcb, hfb, HB⟩
  go_wp2_with fail
  refine (wakes33 _).mono ?_
  rintro e w2 ⟨rfl, hb⟩
  go_wp2_with fail
  go_ret
  exact ⟨rfl, bel_step HB hb⟩

set_option maxRecDepth 100000 in
set_option maxHeartbeats 40000000 in
theorem turns_main (a t : Nat) (A : Option Addr) (c : Nat) (bs : List Bool) (w : World) (ha : a ≤ 255) (ht : t ≤ 255) (hx : RdB w A bs) (hn : 2 + (a : Int) % 15 ≤ (bs.length : Int)) :
    Calls Try.prog 13 #[.int .u8 a, .slice A bs.length c, .int .u8 t] w fun e w' => e = .returned (.bool true) ∧ Below w.heap.size w w' := by
  obtain ⟨N, hN, h1, h2⟩ := many15 a
  rw [hN] at hn
  have hnn : N ≤ bs.length := by omega
  have e0 : decide (bs.length < N) = false := decide_eq_false (by omega)
  clear hn
  obtain ⟨i0, hi0, hz0, hz1, hz2⟩ := info_parts info3
  have HI := Lib.hid (And.intro hi0 (And.intro hz0 (And.intro hz1 hz2)))
  clear hi0 hz0 hz1 hz2
  have HX := Lib.hid hx
  clear hx
  obtain ⟨P, hP⟩ : ∃ P : Nat → Bool, ∀ x, P x = bs.getD x false := ⟨_, fun _ => rfl⟩
  have HP := Lib.hid hP
  clear hP
  go_enter Try.func13, Try.ntmps13
  go_wp2_with fail
  refine (new32 N _ (by omega) h2).mono ?_
  rintro e w1 ⟨cb, fb, rfl, HC, hcb, hfb, HB⟩
  rw [← putF_zero] at HC
  have hc1 := blk_lt HC.1
  have hf1 : fb < w1.heap.size := by obtain ⟨_, ⟨cs, hf, _⟩, _⟩ := HC; exact blk_lt hf
  have hw1 := HB.size
  go_wp2_with fail
  go_loopg [11] N (fun gk s11 wr => ∃ k : Nat, k ≤ N ∧ gk = N - k ∧ s11 = .int .i64 k ∧ CA wr cb fb (putF N k) 0 ∧ Below w.heap.size w wr ∧ w1.heap.size ≤ wr.heap.size)
  case atStart => exact ⟨0, Nat.zero_le _, rfl, rfl, HC, HB, Nat.le_refl _⟩
  case round =>
    clear HC HB
    obtain ⟨k, hk, hgk, rfl, HC, HB, hsz⟩ := hrel
    by_cases hlt : k < N
    · have h34 := victim34 cb fb (putF N k) 0 wr HC (by rw [putF_length]; omega)
      rw [putF_victim N k hlt] at h34
      have H34 := Lib.hid h34
      have h36 := fun W (h : CA W cb fb (putF N k) 0) => put36 cb fb (putF N k) 0 (k : Int) (100 + (k : Int)) W h
      rw [putF_put N k hlt] at h36
      have H36 := Lib.hid h36
      have q0 : (0 : Int) ≤ (k : Int) := Int.natCast_nonneg _
      have q1 : (k : Int) < (N : Int) := by omega
      have e1 : ((k : Int) != (k : Int)) = false := by simp
      clear h34 h36 HC
      go_wp2_with fail
      refine H34.out.mono ?_
      rintro e w3 ⟨rfl, HC3', HO⟩
      try dsimp only at HC3'
      have HC3 := Lib.hid HC3'
      have HB3 := Lib.hid (only_below HB HO hcb hfb (Nat.le_refl _))
      have hs3 := HO.size
      clear HC3' HO H34 HB
      go_wp2_with fail
      refine (H36.out _ HC3.out).mono ?_
      rintro e w4 ⟨rfl, HC4', HO⟩
      try dsimp only at HC4'
      have HC4 := Lib.hid HC4'
      have HB4 := Lib.hid (only_below HB3.out HO hcb hfb (Nat.le_refl _))
      have hs4 := HO.size
      clear HC4' HO H36 HB3 HC3
      go_wp2_with fail
      go_roundg (N - (k + 1))
      case measure => omega
      case rel => exact ⟨k + 1, by omega, rfl, by go_num, HC4.out, HB4.out, by omega⟩
    · obtain rfl : N = k := by omega
      rw [← pinP_zero P N] at HC
      obtain ⟨B, hB⟩ : ∃ B, B = wr.heap.size := ⟨_, rfl⟩
      have hcB : cb < B := by omega
      have hfB : fb < B := by omega
      have hwB : w.heap.size ≤ B := by omega
      have hBB : B ≤ wr.heap.size := by omega
      clear hB hgk hk hlt
      go_wp2_with fail
      go_loopg [10, 14] N (fun gk s10 s14 wq => ∃ j : Nat, j ≤ N ∧ gk = N - j ∧ s14 = .int .i64 j ∧ wq.ownsRow B 3 1 s10 (ints (looseN P j)).length ((ints (looseN P j)).map (Value.int .i64)) ∧ CA wq cb fb (frM (pinP P j) N (fun _ => true)) 0 ∧ Below w.heap.size w wq ∧ B ≤ wq.heap.size)
      case atStart => exact ⟨0, Nat.zero_le _, rfl, rfl, ⟨rfl, .inl ⟨rfl, rfl⟩⟩, HC, HB, hBB⟩
      case round =>
        clear HC HB hBB
        obtain ⟨j, hj, hgk, rfl, hown, HC, HB, hBB⟩ := hrel
        have HOW := Lib.hid hown
        have hll : (ints (looseN P j)).length ≤ j := by rw [ints_length]; exact looseN_len P j
        clear hown
        by_cases hlt : j < N
        · obtain ⟨b, o, x, rfl, hxj, c0⟩ := rdb_at (rdb_keep HX.out HB) (show j < bs.length by omega)
          have hpx : P j = x := by rw [HP.out, List.getD, hxj]; rfl
          have q0 : (0 : Int) ≤ (j : Int) := Int.natCast_nonneg _
          have q1 : (j : Int) < (N : Int) := by omega
          have q2 : (j : Int) < (bs.length : Int) := by omega
          cases x with
          | true =>
            have h37 := pin37 cb fb (frM (pinP P j) N (fun _ => true)) 0 (j : Int) wr HC (frM_bd _ _ _)
            rw [pinP_yes _ hlt hpx] at h37
            have H37 := Lib.hid h37
            have hlo := looseN_no hpx
            have HLO := Lib.hid hlo
            clear h37 hlo hpx hxj HC
            go_wp2_with fail
            refine H37.out.mono ?_
            rintro e w5 ⟨rfl, HC5', HO⟩
            try dsimp only at HC5'
            have HC5 := Lib.hid HC5'
            have HB5 := Lib.hid (only_below HB HO hcb hfb (Nat.le_refl _))
            have HO5 := Lib.hid (own_only HOW.out HO hcB hfB)
            have hs5 := HO.size
            clear HC5' HO H37 HB HOW
            go_wp2_with fail
            go_roundg (N - (j + 1))
            case measure => omega
            case rel => exact ⟨j + 1, by omega, rfl, by go_num, by rw [HLO.out]; exact HO5.out, HC5.out, HB5.out, by omega⟩
          | false =>
            have hlo := looseN_yes hpx
            have HLO := Lib.hid hlo
            have hpn := pinP_no N (fun _ => true) hpx
            rw [hpn] at HC
            have HCC := Lib.hid HC
            have HOA := Lib.hid (HOW.out.alloc (.cells #[.int .i64 j] 3))
            clear hlo hpx hxj hpn HC
            go_wp2_with (at_builtin; go_must (refine wpList_append_own _ rfl (.tmp 89) (.tmp 91) 37 rfl B 3 i0 (.int .i64 0) 1 8 Try.underlying37 HI.out.1 HI.out.2.1 HI.out.2.2.1 HI.out.2.2.2 rfl (by omega) _ _ _ rfl HOA.out ⟨wr.heap.size, 0, none⟩ 1 1 [.int .i64 j] rfl rfl (World.news_of_block (cs := #[.int .i64 j]) (t := 3) (fr := (0, 0)) (heap_alloc_new wr _)) (by simp [Value.oneCell']) (by simp only [maxLen]; omega) (by omega) (by simp; omega) ?_); intro v' w5 hown' hgrow _)
            have HO5 := Lib.hid hown'
            have hbb : Below B wr w5 := ((Below.refl B wr).alloc hBB _).grown hgrow (by simp; omega) (own_base HOA.out)
            have HB5 := Lib.hid (HB.trans (hbb.mono hwB))
            have HC5 := Lib.hid (ca_under HCC.out hbb hcB hfB)
            have hs5 := hbb.size
            clear hown' hgrow hbb
            go_wp2_with fail
            go_roundg (N - (j + 1))
            case measure => omega
            case rel => exact ⟨j + 1, by omega, rfl, by go_num, by rw [HLO.out, ints_snoc, List.length_append, List.map_append]; exact HO5.out, HC5.out, HB5.out, by omega⟩
        · obtain rfl : N = j := by omega
          rw [pinP_all] at HC
          have hlen := ints_length (looseN P N)
          by_cases hl : (ints (looseN P N)).length < 2
          · obtain ⟨A2, c2, rfl, _, _⟩ := sl_of_own HOW.out
            clear hlen
            go_wp2_with fail
            refine (wakes33 _).mono ?_
            rintro e w6 ⟨rfl, hb⟩
            go_wp2_with fail
            go_ret
            exact ⟨rfl, bel_step HB hb⟩
          · obtain ⟨q, hq, hq1, hq2⟩ := pick t (ints (looseN P N)).length (by omega)
            obtain ⟨l0, l1, tt, hl0, hl1, hlt', htn, h0n, hv1, hA, hBk, hC⟩ := turns_fact (P := P) (n := N) hq1 (by omega)
            have hown := HOW.out
            obtain ⟨g, cap, rfl⟩ : ∃ g cap, u10 = .slice (some ⟨g, 0, none⟩) (ints (looseN P N)).length cap := by
              rcases hown.2 with ⟨_, h⟩ | ⟨g, cap, _, h, _⟩
              · omega
              · exact ⟨g, cap, h⟩
            have g0 := ints_get hl0
            have g1 := ints_get hl1
            have gt := ints_get hlt'
            have g2 : ∀ l2 : Nat, (looseN P N)[2]? = some l2 → (ints (looseN P N))[2]? = some (l2 : Int) := fun l2 h => ints_get h
            have h34 := victim34 cb fb (frM P N (fun _ => true)) 0 wr HC (by rw [frM_length]; omega)
            rw [hv1] at h34
            have H34 := Lib.hid h34
            have HA := Lib.hid hA
            have HBk := Lib.hid hBk
            have HC3 := Lib.hid hC
            have G0 := Lib.hid g0
            have G1 := Lib.hid g1
            have GT := Lib.hid gt
            have G2 := Lib.hid g2
            have HOWN := Lib.hid hown
            have HLE := Lib.hid hlen
            clear h34 hA hBk hC g0 g1 gt g2 hl0 hl1 hlt' hv1 hown HOW hlen HC
            generalize ints (looseN P N) = L at *
            have hlw : ((L.length : Int) - 1) ≠ 0 := by omega
            go_wp2_with fail
            refine H34.out.mono ?_
            rintro e w6 ⟨rfl, HC6', HO⟩
            try dsimp only at HC6'
            have HC6 := Lib.hid HC6'
            have HB6 := Lib.hid (only_below HB HO hcb hfb (Nat.le_refl _))
            have HOW6 := Lib.hid (own_only HOWN.out HO hcB hfB)
            clear HC6' HO H34 HB HOWN
            have y0 := own_cells HOW6.out G0.out
            have yq := own_cells HOW6.out GT.out
            have e1 : ((l0 : Int) != (l0 : Int)) = false := by simp
            have q3 : (0 : Int) ≤ (q : Int) := Int.natCast_nonneg _
            have q4 : (q : Int) < (L.length : Int) := by omega
            have h46 := touch46 cb fb (frM P N P) ((l0 + 1) % N) (tt : Int) w6 HC6.out
            rw [touch_frM htn] at h46
            have H46 := Lib.hid h46
            clear h46
            go_wp2_with fail
            refine H46.out.mono ?_
            rintro e w7 ⟨rfl, HC7', HO⟩
            try dsimp only at HC7'
            have HC7 := Lib.hid HC7'
            have HB7 := Lib.hid (only_below HB6.out HO hcb hfb (Nat.le_refl _))
            have HOW7 := Lib.hid (own_only HOW6.out HO hcB hfB)
            clear HC7' HO H46 HB6 HOW6 y0 yq
            have y0 := own_cells HOW7.out G0.out
            have y1 := own_cells HOW7.out G1.out
            by_cases htl : tt = l1
            · have e2 : ((tt : Int) == (l1 : Int)) = true := by simp [htl]
              by_cases h3 : 2 < L.length
              · obtain ⟨l2, fr2, hd2, hl2, hv2⟩ := HC3.out htl (by rw [← HLE.out]; exact h3)
                have y2 := own_cells HOW7.out (G2.out l2 hl2)
                clear hl2 htl
                have h35 := victim34 cb fb (frM P N (fun x => if x = tt then true else P x)) ((l0 + 1) % N) w7 HC7.out (by rw [frM_length]; exact Nat.mod_lt _ (by omega))
                rw [hv2] at h35
                have H35 := Lib.hid h35
                clear h35 hv2
                have e4 : ((l2 : Int) == (l2 : Int)) = true := by simp
                go_wp2_with fail
                refine H35.out.mono ?_
                rintro e w8 ⟨rfl, HC8', HO8⟩
                have HB8 := Lib.hid (only_below HB7.out HO8 hcb hfb (Nat.le_refl _))
                clear HC8' HO8 H35
                go_wp2_with fail
                refine (wakes33 _).mono ?_
                rintro e w9 ⟨rfl, hb⟩
                go_wp2_with fail
                go_ret
                exact ⟨rfl, bel_step HB8.out hb⟩
              · obtain ⟨fr2, hd2, hv2⟩ := HBk.out htl (by rw [← HLE.out]; omega)
                clear htl
                have h35 := victim34 cb fb (frM P N (fun x => if x = tt then true else P x)) ((l0 + 1) % N) w7 HC7.out (by rw [frM_length]; exact Nat.mod_lt _ (by omega))
                rw [hv2] at h35
                have H35 := Lib.hid h35
                clear h35 hv2
                have e4 : ((l0 : Int) == (l0 : Int)) = true := by simp
                go_wp2_with fail
                refine H35.out.mono ?_
                rintro e w8 ⟨rfl, HC8', HO8⟩
                have HB8 := Lib.hid (only_below HB7.out HO8 hcb hfb (Nat.le_refl _))
                clear HC8' HO8 H35
                go_wp2_with fail
                refine (wakes33 _).mono ?_
                rintro e w9 ⟨rfl, hb⟩
                go_wp2_with fail
                go_ret
                exact ⟨rfl, bel_step HB8.out hb⟩
            · have e2 : ((tt : Int) == (l1 : Int)) = false := beq_eq_false_iff_ne.2 (by omega)
              obtain ⟨fr2, hd2, hv2⟩ := HA.out htl
              clear htl
              have h35 := victim34 cb fb (frM P N (fun x => if x = tt then true else P x)) ((l0 + 1) % N) w7 HC7.out (by rw [frM_length]; exact Nat.mod_lt _ (by omega))
              rw [hv2] at h35
              have H35 := Lib.hid h35
              clear h35 hv2
              have e4 : ((l1 : Int) == (l1 : Int)) = true := by simp
              go_wp2_with fail
              refine H35.out.mono ?_
              rintro e w8 ⟨rfl, HC8', HO8⟩
              have HB8 := Lib.hid (only_below HB7.out HO8 hcb hfb (Nat.le_refl _))
              clear HC8' HO8 H35
              go_wp2_with fail
              refine (wakes33 _).mono ?_
              rintro e w9 ⟨rfl, hb⟩
              go_wp2_with fail
              go_ret
              exact ⟨rfl, bel_step HB8.out hb⟩

theorem clockTurns (n : Int) (A : Option Addr) (len c : Nat) (zs : List Bool) (t : Int) (w : World) (h1 : (Lit.int .u8 n).wf = true) (h2 : BoRow w A len c zs) (h3 : (Lit.int .u8 t).wf = true) :
    Calls Try.prog 13 #[.int .u8 n, .slice A len c, .int .u8 t] w fun e w' => e = .returned (.bool true) ∧ Below w.heap.size w w' := by
  obtain ⟨hn0, hn1⟩ := bounds_u8 h1
  obtain ⟨ht0, ht1⟩ := bounds_u8 h3
  obtain ⟨a, rfl⟩ := Int.eq_ofNat_of_zero_le hn0
  obtain ⟨b, rfl⟩ := Int.eq_ofNat_of_zero_le ht0
  obtain ⟨hr, rfl, _, _⟩ := rdb_of_row h2
  by_cases hb : (zs.length : Int) < 2 + (a : Int) % 15
  · exact turns_few a b A _ c w (by omega) hb
  · exact turns_main a b A c zs w (by omega) (by omega) hr (by omega)
end Go.Proofs.Ytecjccjgcdnpnaa
