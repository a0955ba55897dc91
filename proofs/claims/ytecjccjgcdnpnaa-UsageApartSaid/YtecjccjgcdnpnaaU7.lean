/- The law UsageApart holds of every geometry, every list and every byte. -/
import Derived.Test.YtecjccjgcdnpnaaUl
import Derived.Deep.RegionLaw
import Derived.OpenShut
namespace Go.Proofs.Ytecjccjgcdnpnaa
open Go.RowKit
set_option linter.unusedSimpArgs false
set_option linter.unusedVariables false
attribute [local go_sem] field25 field25_0 field25_2

set_option maxRecDepth 100000 in
set_option maxHeartbeats 1000000 in
theorem apart_big (p s l f : Int) (A : Option Addr) (c n : Nat) (hd : Int) (w : World) (h : 300 < n) :
    Calls Try.prog 7 #[gv p s l f, .slice A n c, .int .u8 hd] w fun e w' => e = .returned (.bool true) ∧ Below w.heap.size w w' := by
  have q : (300 : Int) < (n : Int) := by omega
  rcases Bool.eq_false_or_eq_true (goodB p s l f) with hg | hg
  all_goals
    have HG := Lib.hid hg
    clear hg
    go_enter Try.func7, Try.ntmps7
    go_wp2_with fail
    refine (good18 p s l f _).mono ?_
    rintro e w1 ⟨rfl, hb1⟩
    rw [HG.out]
    go_wp2_with fail
    refine (wakes25 _).mono ?_
    rintro e w2 ⟨rfl, hb2⟩
    go_wp2_with fail
    go_ret
    exact ⟨rfl, bel_step (bel_step (bel_box w _) hb1) hb2⟩

set_option maxRecDepth 100000 in
set_option maxHeartbeats 1000000 in
theorem apart_bad (p s l f : Int) (A : Option Addr) (c : Nat) (xs : List Int) (hd : Int) (w : World) (hr : Rd w A xs) (h : xs.length ≤ 300) (hg : goodB p s l f = false) :
    Calls Try.prog 7 #[gv p s l f, .slice A xs.length c, .int .u8 hd] w fun e w' => e = .returned (.bool true) ∧ Below w.heap.size w w' := by
  have q : ¬ (300 : Int) < (xs.length : Int) := by omega
  have hL : (liveL p s l f xs).length = 0 := by simp [liveL, hg]
  have HL := Lib.hid hL
  have HG := Lib.hid hg
  have HR := Lib.hid hr
  clear hg hL hr
  go_enter Try.func7, Try.ntmps7
  go_wp2_with fail
  refine (good18 p s l f _).mono ?_
  rintro e w1 ⟨rfl, hb1⟩
  have B0 : Blk w1 w.heap.size 23 #[.int .i64 p, .int .i64 s, .int .i64 l, .int .i64 f] := blk_keep (blk_new w _ _) hb1
  have HB := bel_step (bel_box w _) hb1
  clear hb1
  have x0 := blk_cell B0 0
  have x1 := blk_cell B0 1
  have x2 := blk_cell B0 2
  have x3 := blk_cell B0 3
  simp at x0 x1 x2 x3
  rw [HG.out]
  go_wp2_with fail
  refine (count27 p s l f A c xs _ (rd_keep HR.out HB) (by omega)).mono ?_
  rintro e w2 ⟨v, rfl, sv, hb2⟩
  obtain ⟨A2, c2, rfl, _, _⟩ := sv
  rw [HL.out]
  go_wp2_with fail
  refine (wakes25 _).mono ?_
  rintro e w3 ⟨rfl, hb3⟩
  go_wp2_with fail
  go_ret
  exact ⟨rfl, bel_step (bel_step HB hb2) hb3⟩

/-- The head, in its range. -/
theorem head_range {hd s : Int} (h0 : 0 ≤ hd) (h1 : 6 ≤ s) (h2 : s ≤ 16) : 0 ≤ hd % s ∧ hd % s < s := ⟨Int.emod_nonneg _ (by omega), Int.emod_lt_of_pos _ (by omega)⟩

theorem mem_freeTo {xs : List Int} {h : Int} {k : Nat} {y : Int} (hy : y ∈ freeTo xs h k) : ∃ i : Nat, i < k ∧ isFree xs h i = true ∧ y = i := by
  simp only [freeTo, List.mem_map, List.mem_filter, List.mem_range] at hy
  obtain ⟨i, ⟨h1, h2⟩, rfl⟩ := hy
  exact ⟨i, h1, h2, rfl⟩
theorem freeTo_pre (xs : List Int) (h : Int) (k m : Nat) (hkm : k ≤ m) : freeTo xs h k <+: freeTo xs h m := by
  induction m with
  | zero => obtain rfl : k = 0 := by omega
            exact List.prefix_refl _
  | succ m ih =>
    by_cases e : k = m + 1
    · subst e; exact List.prefix_refl _
    · refine List.IsPrefix.trans (ih (by omega)) ?_
      rcases Bool.eq_false_or_eq_true (isFree xs h m) with hf | hf
      · rw [freeTo_yes hf]; exact List.prefix_append _ _
      · rw [freeTo_no hf]; exact List.prefix_refl _
theorem free_at {xs : List Int} {h : Int} {k : Nat} (hk : k < xs.length) (hf : isFree xs h k = true) : (freeL xs h)[(freeTo xs h k).length]? = some (k : Int) := by
  have hp := freeTo_pre xs h (k + 1) xs.length (by omega)
  rw [freeTo_yes hf] at hp
  obtain ⟨t, ht⟩ := hp
  unfold freeL
  rw [← ht]
  simp
theorem free_not {xs : List Int} {h : Int} {k : Nat} {v : Int} (hf : isFree xs h k = false) {i : Nat} (hv : (freeL xs h)[i]? = some v) : v ≠ k := by
  rintro rfl
  obtain ⟨j, _, hj, e⟩ := mem_freeTo (List.mem_of_getElem? hv)
  obtain rfl : k = j := by omega
  rw [hf] at hj
  cases hj
theorem free_far {p s l f : Int} (hg : goodB p s l f = true) {ps : List Int} {h x y : Int} (hx : x ∈ ps) (hi : inB p s l f x = true) (hy : y ∈ freeL (liveL p s l f ps) h) : y ≠ ofS p s l f x := by
  obtain ⟨q0, q1⟩ := ofS_range hi
  obtain ⟨i, hi1, hf, rfl⟩ := mem_freeTo hy
  intro e
  have hl : i < s.toNat := by rw [liveL_length _ hg] at hi1; exact hi1
  have hget : (liveL p s l f ps).getD i 0 = cnt p s l f ps i := by simp [List.getD, liveL_get _ hg i hl]
  simp only [isFree, hget, Bool.and_eq_true, beq_iff_eq] at hf
  have hpos : 0 < cnt p s l f ps i := by
    unfold cnt
    apply List.length_pos_of_mem (a := x)
    rw [List.mem_filter]
    exact ⟨hx, by simp [hi, e]⟩
  omega

set_option maxRecDepth 100000 in
set_option maxHeartbeats 4000000 in
theorem apart_main (p s l f : Int) (A : Option Addr) (c : Nat) (xs : List Int) (hd : Int) (w : World) (hr : Rd w A xs) (h : xs.length ≤ 300) (hg : goodB p s l f = true) (hd0 : 0 ≤ hd) (hd1 : hd ≤ 255) :
    Calls Try.prog 7 #[gv p s l f, .slice A xs.length c, .int .u8 hd] w fun e w' => e = .returned (.bool true) ∧ Below w.heap.size w w' := by
  have q : ¬ (300 : Int) < (xs.length : Int) := by omega
  obtain ⟨h1, h2, h3, h4, h5, h6, h7, h8⟩ := goodB_iff.1 hg
  obtain ⟨n, rfl⟩ := Int.eq_ofNat_of_zero_le (show 0 ≤ s by omega)
  have hL : (liveL p n l f xs).length = n := by rw [liveL_length _ hg]; simp
  have HL := Lib.hid hL
  have HG := Lib.hid hg
  have HR := Lib.hid hr
  clear hg hL hr
  go_enter Try.func7, Try.ntmps7
  go_wp2_with fail
  refine (good18 p n l f _).mono ?_
  rintro e w1 ⟨rfl, hb1⟩
  have B0 : Blk w1 w.heap.size 23 #[.int .i64 p, .int .i64 n, .int .i64 l, .int .i64 f] := blk_keep (blk_new w _ _) hb1
  have HB := bel_step (bel_box w _) hb1
  clear hb1
  have x0 := blk_cell B0 0
  have x1 := blk_cell B0 1
  have x2 := blk_cell B0 2
  have x3 := blk_cell B0 3
  simp at x0 x1 x2 x3
  rw [HG.out]
  go_wp2_with fail
  refine (count27 p n l f A c xs _ (rd_keep HR.out HB) (by omega)).mono ?_
  rintro e w2 ⟨v, rfl, sv, hb2⟩
  have HB2 := bel_step HB hb2
  have B2 := blk_keep B0 hb2
  obtain ⟨A2, c2, rfl, r2, _⟩ := sv
  have R2 := Lib.hid r2
  clear r2 hb2 HB B0 x0 x1 x2 x3
  have x0 := blk_cell B2 0
  have x1 := blk_cell B2 1
  have x2 := blk_cell B2 2
  have x3 := blk_cell B2 3
  simp at x0 x1 x2 x3
  rw [HL.out]
  go_wp2_with fail
  have hj0 := head_range hd0 h3 h4
  generalize hd % (n : Int) = hh at *
  obtain ⟨j, rfl⟩ := Int.eq_ofNat_of_zero_le hj0.1
  have hjn := hj0.2
  clear hj0
  have hfr := free29 A2 c2 (liveL p n l f xs) j w2 R2.out (by rw [HL.out]; omega)
  rw [HL.out] at hfr
  refine hfr.mono ?_
  clear hfr
  rintro e w3 ⟨v, rfl, sv, hb3⟩
  have HB3 := bel_step HB2 hb3
  have B3 := blk_keep B2 hb3
  obtain ⟨A3, c3, rfl, r3, _⟩ := sv
  have R3 := Lib.hid r3
  have R2' := Lib.hid (rd_keep R2.out hb3)
  have RX := Lib.hid (rd_keep HR.out HB3)
  have FA : Hid (∀ x ∈ xs, inB p n l f x = true → ∀ y ∈ freeL (liveL p n l f xs) j, y ≠ ofS p n l f x) := Lib.hid fun x hx hi y hy => free_far HG.out hx hi hy
  have FB : Hid (∀ k, k < n → isFree (liveL p n l f xs) j k = true → (freeL (liveL p n l f xs) j)[(freeTo (liveL p n l f xs) j k).length]? = some (k : Int)) := Lib.hid fun k hk hf => free_at (by rw [HL.out]; exact hk) hf
  have FC : Hid (∀ k : Nat, isFree (liveL p n l f xs) j k = false → ∀ (i : Nat) (v : Int), (freeL (liveL p n l f xs) j)[i]? = some v → v ≠ k) := Lib.hid fun k hf i v hv => free_not hf hv
  have FN : Hid ((freeTo (liveL p n l f xs) j n).length = (freeL (liveL p n l f xs) j).length) := Lib.hid (by unfold freeL; rw [HL.out])
  have hFl : (freeL (liveL p n l f xs) j).length ≤ 16 := by
    have := freeTo_len (liveL p n l f xs) j (liveL p n l f xs).length
    have e := HL.out
    unfold freeL
    omega
  have PS : Hid (posSum (liveL p n l f xs) = inN p n l f xs) := Lib.hid (posSum_live HG.out xs)
  have LB : Hid (∀ x ∈ liveL p n l f xs, x ≤ 1099511627776) := Lib.hid fun x hx => by have := live_bd xs x hx; omega
  clear r3 hb3 HB2 B2 x0 x1 x2 x3 HR R2
  have x0 := blk_cell B3 0
  have x1 := blk_cell B3 1
  have x2 := blk_cell B3 2
  have x3 := blk_cell B3 3
  simp at x0 x1 x2 x3
  generalize hX : liveL p n l f xs = X at *
  clear hX
  generalize hF : freeL X j = F at *
  clear hF
  go_wp2_with fail
  clear x0 x1 x2 x3
  go_loopg [10, 11] xs.length (fun gk s10 s11 wr => ∃ k : Nat, k ≤ xs.length ∧ gk = xs.length - k ∧ s11 = .int .i64 k ∧ s10 = .int .i64 (inN p n l f (xs.take k) : Int) ∧ Below w3.heap.size w3 wr)
  case atStart => exact ⟨0, Nat.zero_le _, rfl, rfl, rfl, Below.refl _ _⟩
  case round =>
    obtain ⟨k, hk, hgk, rfl, rfl, HB⟩ := hrel
    have hin := inN_le p n l f (xs.take k)
    have htl : (xs.take k).length ≤ 300 := by simp; omega
    by_cases hlt : k < xs.length
    · obtain ⟨b, o, v, rfl, hv, hc⟩ := rd_at (rd_keep RX.out HB) hlt
      have hmem := List.mem_of_getElem? hv
      have hts := take_snoc xs k v hv
      have HM := Lib.hid hmem
      have HT := Lib.hid hts
      clear hv hmem hts
      have B4 := blk_keep B3 HB
      have x0 := blk_cell B4 0
      have x1 := blk_cell B4 1
      have x2 := blk_cell B4 2
      have x3 := blk_cell B4 3
      simp at x0 x1 x2 x3
      go_wp2_with fail
      go_cut [12] (fun s12 wx => ∃ g : Nat, s12 = .pointer (some ⟨g, 0, none⟩) ∧ Blk wx g 28 #[.int .i64 (ofS p n l f v), .int .i64 (ofO p n l f v), .bool (inB p n l f v)] ∧ wr.heap.size ≤ g ∧ Below wr.heap.size wr wx)
      case first =>
        have hk0 : (0 : Int) ≤ (k : Int) := Int.natCast_nonneg _
        have hk1 : (k : Int) < (xs.length : Int) := by omega
        have hl1 := World.block_lt_of_cell? wr _ hc
        have hl2 := World.block_lt_of_cell? wr _ x0
        simp at hl1 hl2
        first
          | go_region_with (go_at_call 15; refine (where15 p n l f v _).mono ?_; rintro e w9 ⟨rfl, hb2⟩; obtain ⟨hc2, hf2⟩ := bcell hb2; have hz9 := hb2.size; simp at hz9)
          | fail
        all_goals go_wp2_with fail
        all_goals go_meet
        all_goals first
          | ((with_reducible refine ⟨w9.heap.size, rfl, ?_, ?_, ?_⟩); (exact blk_new _ _ _); (exact hb2.size); (exact bel_new (bel_step (bel_draw1 (Below.refl _ _)) hb2) _))
          | ((with_reducible refine ⟨wr.heap.size, rfl, ?_, ?_, ?_⟩); (exact three_set (blk_keep (blk_drew (blk_new wr 28 _)) hb2)); (exact Nat.le_refl _); (exact bel_set (bel_set (bel_set (bel_step (bel_draw1 (bel_box wr _)) hb2) _ _ (Nat.le_refl _)) _ _ (Nat.le_refl _)) _ _ (Nat.le_refl _)))
      case rest =>
        obtain ⟨g, rfl, G, hg0, hb2⟩ := hcut
        have HB2 := bel_step HB hb2
        clear hb2 HB B4 x0 x1 x2 x3 hc
        have y2 : wc.cell? ⟨g, 2, none⟩ = _ := blk_cell G 2
        simp at y2
        rcases Bool.eq_false_or_eq_true (inB p n l f v) with hi | hi
        · have hn1 : inN p n l f (xs.take (k + 1)) = inN p n l f (xs.take k) + 1 := by
            rw [HT.out, inN_append]; simp [inN, hi]
          have HN := Lib.hid hn1
          have HF := Lib.hid fun y hy => FA.out v HM.out hi y hy
          rw [hi] at y2
          clear hi hn1
          go_wp2_with fail
          go_loopg [13] F.length (fun gm s13 wi => ∃ m : Nat, m ≤ F.length ∧ gm = F.length - m ∧ s13 = .int .i64 m ∧ Below wc.heap.size wc wi)
          case atStart => exact ⟨0, Nat.zero_le _, rfl, rfl, Below.refl _ _⟩
          case round =>
            obtain ⟨m, hm, hgm, rfl, HBi⟩ := hrel
            by_cases hlm : m < F.length
            · obtain ⟨b3, o3, u, rfl, hu, hcu⟩ := rd_at (rd_keep (rd_keep R3.out HB2) HBi) hlm
              have hne := HF.out u (List.mem_of_getElem? hu)
              have hq : (u == ofS p n l f v) = false := by simpa using hne
              have z0 : wr.cell? ⟨g, 0, none⟩ = _ := blk_cell (blk_keep G HBi) 0
              simp at z0
              clear hu hne y2
              have q0 : (0 : Int) ≤ (m : Int) := Int.natCast_nonneg _
              have q1 : (m : Int) < (F.length : Int) := by omega
              go_wp2_with fail
              go_quiet (fail)
              go_wp2_with fail
              go_roundg (F.length - (m + 1))
              case measure => omega
              case rel => exact ⟨m + 1, by omega, rfl, by go_num, bel_draw HBi _⟩
            · clear y2
              go_wp2_with fail
              go_roundg (xs.length - (k + 1))
              case measure => omega
              case rel => exact ⟨k + 1, by omega, rfl, by go_num, by rw [HN.out]; go_num, bel_step HB2 HBi⟩
        · have hn1 : inN p n l f (xs.take (k + 1)) = inN p n l f (xs.take k) := by
            rw [HT.out, inN_append]; simp [inN, hi]
          have HN := Lib.hid hn1
          rw [hi] at y2
          clear hi hn1
          go_wp2_with fail
          go_roundg (xs.length - (k + 1))
          case measure => omega
          case rel => exact ⟨k + 1, by omega, rfl, by go_num, by rw [HN.out], HB2⟩
    · have hkl : k = xs.length := by omega
      subst hkl
      rw [List.take_length] at *
      have B4 := blk_keep B3 HB
      have HB4 := bel_step HB3 HB
      have QF := Lib.hid (rd_keep R3.out HB)
      have QX := Lib.hid (rd_keep R2'.out HB)
      clear B3 HB3 R3 R2' RX HB FA
      have x1 := blk_cell B4 1
      simp at x1
      go_wp2_with fail
      go_loopg [14, 15] n (fun gk s14 s15 wi => ∃ k : Nat, k ≤ n ∧ gk = n - k ∧ s15 = .int .i64 k ∧ s14 = .int .i64 ((freeTo X j k).length : Int) ∧ wi = wr)
      case atStart => exact ⟨0, Nat.zero_le _, rfl, rfl, rfl, rfl⟩
      case round =>
        obtain ⟨k, hk, hgk, rfl, rfl, rfl⟩ := hrel
        have htk := freeTo_len X j k
        by_cases hlk : k < n
        · have hkX : k < X.length := by rw [HL.out]; exact hlk
          obtain ⟨b2, o2, cv, rfl, hcv, hcc⟩ := rd_at QX.out hkX
          have hgd : X.getD k 0 = cv := by simp [List.getD, hcv]
          have q0 : (0 : Int) ≤ (k : Int) := Int.natCast_nonneg _
          have q1 : (k : Int) < (n : Int) := by omega
          clear hcv
          rcases Bool.eq_false_or_eq_true (isFree X j k) with hf | hf
          · have hat := FB.out k hlk hf
            have hlt2 : (freeTo X j k).length < F.length := (List.getElem?_eq_some_iff.1 hat).1
            obtain ⟨b3, o3, u, rfl, hu, hcu⟩ := rd_at QF.out hlt2
            obtain rfl : u = k := by rw [hat] at hu; exact (Option.some.inj hu).symm
            have hy := freeTo_yes hf
            have HY : Hid ((freeTo X j (k + 1)).length = (freeTo X j k).length + 1) := Lib.hid (by rw [hy]; simp)
            simp only [isFree, hgd, Bool.and_eq_true, beq_iff_eq, Bool.not_eq_true', beq_eq_false_iff_ne] at hf
            have e1 : (cv == 0) = true := by simp [hf.1]
            have e2 : ((k : Int) != (j : Int)) = true := by simpa using hf.2
            clear hat hu hf hgd hy
            generalize (freeTo X j k).length = t at *
            go_wp2_with fail
            go_roundg (n - (k + 1))
            case measure => omega
            case rel => exact ⟨k + 1, by omega, rfl, by go_num, by rw [HY.out]; go_num, rfl⟩
          · have hno := freeTo_no hf
            have HNo := Lib.hid (congrArg List.length hno)
            have hfc := FC.out k hf
            have hor : ¬ cv = 0 ∨ (cv = 0 ∧ (k : Int) = (j : Int)) := by
              by_cases hz : cv = 0
              · right
                refine ⟨hz, ?_⟩
                rw [isFree, hgd, hz] at hf
                simpa using hf
              · exact .inl hz
            clear hf hno hgd
            by_cases hlt2 : (freeTo X j k).length < F.length
            · obtain ⟨b3, o3, u, rfl, hu, hcu⟩ := rd_at QF.out hlt2
              have hne := hfc _ _ hu
              have e3 : (u == (k : Int)) = false := by simpa using hne
              clear hu hne hfc
              generalize (freeTo X j k).length = t at *
              rcases hor with hz | ⟨hz, hkj⟩
              · have e1 : (cv == 0) = false := by simp [hz]
                clear hz
                go_wp2_with fail
                go_roundg (n - (k + 1))
                case measure => omega
                case rel => exact ⟨k + 1, by omega, rfl, by go_num, by rw [HNo.out], rfl⟩
              · have e1 : (cv == 0) = true := by simp [hz]
                have e2 : ((k : Int) != (j : Int)) = false := by simp [hkj]
                clear hz hkj
                go_wp2_with fail
                go_roundg (n - (k + 1))
                case measure => omega
                case rel => exact ⟨k + 1, by omega, rfl, by go_num, by rw [HNo.out], rfl⟩
            · clear hfc
              generalize (freeTo X j k).length = t at *
              rcases hor with hz | ⟨hz, hkj⟩
              · have e1 : (cv == 0) = false := by simp [hz]
                clear hz
                go_wp2_with fail
                go_roundg (n - (k + 1))
                case measure => omega
                case rel => exact ⟨k + 1, by omega, rfl, by go_num, by rw [HNo.out], rfl⟩
              · have e1 : (cv == 0) = true := by simp [hz]
                have e2 : ((k : Int) != (j : Int)) = false := by simp [hkj]
                clear hz hkj
                go_wp2_with fail
                go_roundg (n - (k + 1))
                case measure => omega
                case rel => exact ⟨k + 1, by omega, rfl, by go_num, by rw [HNo.out], rfl⟩
        · have hkn : k = n := by omega
          subst hkn
          have hs := sum31 A2 c2 X _ QX.out (by rw [HL.out]; omega) LB.out
          rw [HL.out, PS.out] at hs
          have HS := Lib.hid hs
          clear hs
          rw [FN.out]
          go_wp2_with fail
          refine HS.out.mono ?_
          rintro e w5 ⟨rfl, hb5⟩
          go_wp2_with fail
          refine (wakes25 _).mono ?_
          rintro e w6 ⟨rfl, hb6⟩
          go_wp2_with fail
          go_ret
          exact ⟨rfl, bel_step (bel_step HB4 hb5) hb6⟩

theorem usageApart (p s l f : Int) (A : Option Addr) (n c : Nat) (zs : List Int) (hd : Int) (w : World) (h1 : IsRow w A n c zs) (h2 : (Lit.int .u8 hd).wf = true) :
    Calls Try.prog 7 #[gv p s l f, .slice A n c, .int .u8 hd] w fun e w' => e = .returned (.bool true) ∧ Below w.heap.size w w' := by
  obtain ⟨r1, l1, _, _⟩ := rd_of_row h1
  by_cases hb : 300 < n
  · exact apart_big p s l f A c n hd w hb
  · have hd0 : 0 ≤ hd ∧ hd ≤ 255 := bounds_u8 h2
    rcases Bool.eq_false_or_eq_true (goodB p s l f) with hg | hg
    · have := apart_main p s l f A c (zs.take n) hd w r1 (by omega) hg hd0.1 hd0.2
      rw [l1] at this
      exact this
    · have := apart_bad p s l f A c (zs.take n) hd w r1 (by omega) hg
      rw [l1] at this
      exact this
end Go.Proofs.Ytecjccjgcdnpnaa
