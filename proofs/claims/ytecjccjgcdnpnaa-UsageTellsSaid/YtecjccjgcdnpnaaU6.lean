/- The law UsageTells holds of every geometry and every two lists. -/
import Derived.Test.YtecjccjgcdnpnaaUl
import Derived.Deep.RegionLaw
namespace Go.Proofs.Ytecjccjgcdnpnaa
open Go.RowKit
set_option linter.unusedSimpArgs false
set_option linter.unusedVariables false

set_option maxRecDepth 100000 in
set_option maxHeartbeats 1000000 in
theorem tells_big (p s l f : Int) (A B : Option Addr) (c d n m : Nat) (w : World) (h : 300 < n ∨ 60 < m) :
    Calls Try.prog 6 #[gv p s l f, .slice A n c, .slice B m d] w fun e w' => e = .returned (.bool true) ∧ Below w.heap.size w w' := by
  by_cases hn : 300 < n
  · have q : (300 : Int) < (n : Int) := by omega
    clear h
    go_enter Try.func6, Try.ntmps6
    go_wp2_with fail
    refine (wakes25 _).mono ?_
    rintro e w1 ⟨rfl, hb1⟩
    go_wp2_with fail
    go_ret
    exact ⟨rfl, bel_step (bel_box w _) hb1⟩
  · have hm : 60 < m := by omega
    have q : (60 : Int) < (m : Int) := by omega
    have q2 : ¬ (300 : Int) < (n : Int) := by omega
    clear h
    go_enter Try.func6, Try.ntmps6
    go_wp2_with fail
    refine (wakes25 _).mono ?_
    rintro e w1 ⟨rfl, hb1⟩
    go_wp2_with fail
    go_ret
    exact ⟨rfl, bel_step (bel_box w _) hb1⟩

set_option maxRecDepth 100000 in
set_option maxHeartbeats 2000000 in
theorem tells_main (p s l f : Int) (A B : Option Addr) (c d : Nat) (xs ys : List Int) (w : World) (hx : Rd w A xs) (hy : Rd w B ys) (hlx : xs.length ≤ 300) (hly : ys.length ≤ 60) :
    Calls Try.prog 6 #[gv p s l f, .slice A xs.length c, .slice B ys.length d] w fun e w' => e = .returned (.bool true) ∧ Below w.heap.size w w' := by
  have q1 : ¬ (300 : Int) < (xs.length : Int) := by omega
  have q2 : ¬ (60 : Int) < (ys.length : Int) := by omega
  have HX := Lib.hid hx
  have HY := Lib.hid hy
  clear hx hy
  go_enter Try.func6, Try.ntmps6
  go_upto_region 3 with fail
  generalize hW : w.alloc (.cells #[.int .i64 p, .int .i64 s, .int .i64 l, .int .i64 f] 23) = w1
  have HB1 : Below w.heap.size w w1 := by subst hW; exact bel_box _ _
  have B1 : Blk w1 w.heap.size 23 #[.int .i64 p, .int .i64 s, .int .i64 l, .int .i64 f] := by subst hW; exact blk_new _ _ _
  clear hW
  go_upto_if 29 with (first
    | (at_builtin
       refine wpList_app _ rfl (.tmp 21) (.tmp 22) rfl w1.heap.size (.slice (some ⟨w1.heap.size, 0, none⟩) 0 0) 0 [] rfl (own_new w1 _ (Nat.le_refl _)) A c xs rfl (rd_keep (rd_keep HX.out HB1) (bel_box _ _)) (by omega) (by simp) ?_
       intro v1 w2 hown1 hg1
       have hb2 : Below w1.heap.size w1 w2 := Below.grown (bel_box _ _) hg1 (by simp) (by intro k hk; simp [Value.ownBlock] at hk; omega)
       obtain ⟨A1, c1, rfl, R1, _⟩ := sl_of_own (w := w2) (base := w1.heap.size) (v := v1) (xs := xs) (by simpa using hown1)
       have HB2 := bel_step HB1 hb2
       have B2 := blk_keep B1 hb2
       clear hown1 hg1)
    | (at_builtin
       refine wpList_app _ rfl (.tmp 24) (.tmp 25) rfl w2.heap.size (.slice (some ⟨w2.heap.size, 0, none⟩) 0 0) 0 [] rfl (own_new w2 _ (Nat.le_refl _)) B d ys rfl (rd_keep (rd_keep HY.out HB2) (bel_box _ _)) (by omega) (by simp) ?_
       intro v2 w3 hown2 hg2
       have hb3 : Below w2.heap.size w2 w3 := Below.grown (bel_box _ _) hg2 (by simp) (by intro k hk; simp [Value.ownBlock] at hk; omega)
       obtain ⟨A2, c2, rfl, R2, _⟩ := sl_of_own (w := w3) (base := w2.heap.size) (v := v2) (xs := ys) (by simpa using hown2)
       have R1' := rd_keep R1 hb3
       have HB3 := bel_step HB2 hb3
       have B3 := blk_keep B2 hb3
       clear hown2 hg2)
    | fail)
  have RX := Lib.hid (rd_keep HX.out HB3)
  have RY := Lib.hid (rd_keep HY.out HB3)
  have RV1 := Lib.hid R1'
  have RV2 := Lib.hid R2
  clear HB2 B2 R1 R1' R2 hb2 hb3 HX HY HB1 B1
  go_cut [9] (fun s9 wx => ∃ h : Int, s9 = .int .i64 h ∧ wx = w3)
  case first =>
    by_cases h0 : xs = []
    · have hq : ¬ (0 : Int) < (xs.length : Int) := by simp [h0]
      clear h0
      go_wp2_with fail
      all_goals go_meet
      all_goals exact ⟨_, rfl, rfl⟩
    · have hl : 0 < xs.length := List.length_pos_iff.2 h0
      obtain ⟨b, o, v, rfl, hv, hc⟩ := rd_at RX.out hl
      have hq : (0 : Int) < (xs.length : Int) := by omega
      clear h0 hv
      rw [Nat.add_zero] at hc
      go_wp2_with fail
      all_goals go_meet
      all_goals exact ⟨_, rfl, rfl⟩
  case rest =>
    obtain ⟨h, rfl, rfl⟩ := hcut
    go_wp2_with fail
    go_loopg [10, 11] ys.length (fun gk s10 s11 wr => ∃ k : Nat, k ≤ ys.length ∧ gk = ys.length - k ∧ s11 = .int .i64 k ∧ s10 = .int .i64 (posSum (ys.take k)) ∧ (∀ x ∈ ys.take k, x ≤ 1099511627776) ∧ Below wc.heap.size wc wr)
    case atStart => exact ⟨0, Nat.zero_le _, rfl, rfl, rfl, by simp, Below.refl _ _⟩
    case round =>
      obtain ⟨k, hk, hgk, rfl, rfl, hle, HB⟩ := hrel
      obtain ⟨sb1, sb2⟩ := posSum_bd hle
      have hlk : ((ys.take k).length : Int) ≤ 60 := by simp; omega
      have HLE := Lib.hid hle
      clear hle
      by_cases hlt : k < ys.length
      · obtain ⟨b, o, v, rfl, hv, hc⟩ := rd_at (rd_keep RY.out HB) hlt
        have hts := take_snoc ys k v hv
        have hs := posSum_snoc (ys.take k) v
        rw [← hts] at hs
        have HS := Lib.hid hs
        have HT := Lib.hid hts
        clear hs hts hv
        by_cases hv : (1099511627776 : Int) < v
        · go_wp2_with fail
          refine (wakes25 _).mono ?_
          rintro e w4 ⟨rfl, hb4⟩
          go_wp2_with fail
          go_ret
          exact ⟨rfl, bel_step HB3 (bel_step HB hb4)⟩
        · generalize posSum (ys.take k) = S at *
          go_wp2_with fail
          go_roundg (ys.length - (k + 1))
          case measure => omega
          case rel =>
            refine ⟨k + 1, by omega, rfl, by go_num, ?_, ?_, HB⟩
            · rw [HS.out]
            rw [HT.out]
            intro x hx
            rw [List.mem_append] at hx
            rcases hx with hx | hx
            · exact HLE.out x hx
            · simp at hx; omega
      · have hkl : k = ys.length := by omega
        subst hkl
        rw [List.take_length] at *
        go_wp2_with fail
        have B4 := blk_keep B3 HB
        have x0 := blk_cell B4 0
        have x1 := blk_cell B4 1
        have x2 := blk_cell B4 2
        have x3 := blk_cell B4 3
        simp at x0 x1 x2 x3
        have HB4 := bel_step HB3 HB
        have QX := Lib.hid (rd_keep RX.out HB)
        have QY := Lib.hid (rd_keep RY.out HB)
        have Q1 := Lib.hid (rd_keep RV1.out HB)
        have Q2 := Lib.hid (rd_keep RV2.out HB)
        have hLL : (liveL p s l f xs).length ≤ 1000 := by
          unfold liveL
          split
          · rename_i hg
            have := goodB_iff.1 hg
            simp; omega
          · simp
        have hFL : (freeL ys h).length ≤ 1000 := by have := freeTo_len ys h ys.length; unfold freeL; omega
        clear RX RY RV1 RV2 HB B3 HB3 B4 sb1 sb2
        have HBd := bel_draw1 (Below.refl wr.heap.size wr)
        first
          | go_region_held3 (fun w' => w'.cell? ⟨w.heap.size, 0, none⟩ = some (.int .i64 p) ∧ w'.cell? ⟨w.heap.size, 1, none⟩ = some (.int .i64 s) ∧ w'.cell? ⟨w.heap.size, 2, none⟩ = some (.int .i64 l) ∧ w'.cell? ⟨w.heap.size, 3, none⟩ = some (.int .i64 f) ∧ Below wr.heap.size wr w')
              (first | (go_keep; done) | ((try go_split_ands); refine ⟨?_, ?_, ?_, ?_, ?_⟩ <;> (first | assumption | exact bel_keep hb2 ‹_› | exact bel_keep1 hb2 ‹_› | exact bel_step (by assumption) hb2 | exact bel_step HBd hb2 | (go_keep; done))))
              (first
                | (go_at_call 27; refine (count27 p s l f A1 c1 xs _ ?_ (by omega)).mono ?_; ((try go_split_ands); first | exact rd_keep Q1.out HBd | exact rd_keep Q1.out (by assumption)); rintro e w9 ⟨v, rfl, sv, hb2⟩; (obtain ⟨A27, c27, rfl, R27, _⟩ := sv))
                | (go_at_call 28; refine (count28 p s l f A c xs _ ?_ (by omega)).mono ?_; ((try go_split_ands); first | exact rd_keep QX.out HBd | exact rd_keep QX.out (by assumption)); rintro e w9 ⟨v, rfl, sv, hb2⟩; (obtain ⟨A28, c28, rfl, R28, _⟩ := sv); have R27' := rd_keep R27 hb2)
                | (go_at_call_of 26 (Value.slice A27 (liveL p s l f xs).length c27); refine (ints26 A27 A28 c27 c28 (liveL p s l f xs) (liveL p s l f xs) _ R27' R28 hLL (by omega)).mono ?_; rintro e w9 ⟨rfl, hb2⟩; rw [decide_eq_true (rfl : liveL p s l f xs = liveL p s l f xs)])
                | (go_at_call 29; refine (free29 A2 c2 ys h _ ?_ (by omega)).mono ?_; ((try go_split_ands); exact rd_keep Q2.out (by assumption)); rintro e w9 ⟨v, rfl, sv, hb2⟩; (obtain ⟨A29, c29, rfl, R29, _⟩ := sv))
                | (go_at_call 30; refine (free30 B d ys h _ ?_ (by omega)).mono ?_; ((try go_split_ands); exact rd_keep QY.out (by assumption)); rintro e w9 ⟨v, rfl, sv, hb2⟩; (obtain ⟨A30, c30, rfl, R30, _⟩ := sv); have R29' := rd_keep R29 hb2)
                | (go_at_call_of 26 (Value.slice A29 (freeL ys h).length c29); refine (ints26 A29 A30 c29 c30 (freeL ys h) (freeL ys h) _ R29' R30 hFL (by omega)).mono ?_; rintro e w9 ⟨rfl, hb2⟩; rw [decide_eq_true (rfl : freeL ys h = freeL ys h)])
                | (go_at_call 31; refine (sum31 A2 c2 ys _ ?_ (by omega) HLE.out).mono ?_; ((try go_split_ands); exact rd_keep Q2.out (by assumption)); rintro e w9 ⟨rfl, hb2⟩)
                | (go_at_call_of 26 (Value.slice A1 xs.length c1); refine (ints26 A1 A c1 c xs xs _ ?_ ?_ (by omega) (by omega)).mono ?_; ((try go_split_ands); exact rd_keep Q1.out (by assumption)); ((try go_split_ands); exact rd_keep QX.out (by assumption)); rintro e w9 ⟨rfl, hb2⟩; rw [decide_eq_true (rfl : xs = xs)])
                | (go_at_call_of 26 (Value.slice A2 ys.length c2); refine (ints26 A2 B c2 d ys ys _ ?_ ?_ (by omega) (by omega)).mono ?_; ((try go_split_ands); exact rd_keep Q2.out (by assumption)); ((try go_split_ands); exact rd_keep QY.out (by assumption)); rintro e w9 ⟨rfl, hb2⟩; rw [decide_eq_true (rfl : ys = ys)])
                | (go_at_call 25; refine (wakes25 _).mono ?_; rintro e w9 ⟨rfl, hb2⟩))
          | fail
        go_split_ands
        have HBz : Below wr.heap.size wr w9 := by assumption
        go_wp2_with fail
        go_ret
        exact ⟨rfl, bel_step HB4 HBz⟩

theorem usageTells (p s l f : Int) (A : Option Addr) (n c : Nat) (zs : List Int) (B : Option Addr) (m d : Nat) (us : List Int) (w : World) (h1 : IsRow w A n c zs) (h2 : IsRow w B m d us) :
    Calls Try.prog 6 #[gv p s l f, .slice A n c, .slice B m d] w fun e w' => e = .returned (.bool true) ∧ Below w.heap.size w w' := by
  by_cases hb : 300 < n ∨ 60 < m
  · exact tells_big p s l f A B c d n m w hb
  · obtain ⟨r1, l1, _, _⟩ := rd_of_row h1
    obtain ⟨r2, l2, _, _⟩ := rd_of_row h2
    have := tells_main p s l f A B c d (zs.take n) (us.take m) w r1 r2 (by omega) (by omega)
    rw [l1, l2] at this
    exact this
end Go.Proofs.Ytecjccjgcdnpnaa
