/- The law UsageAdds holds of every geometry and every two lists. -/
import Derived.Test.YtecjccjgcdnpnaaUl
import Derived.Deep.RegionLaw
namespace Go.Proofs.Ytecjccjgcdnpnaa
open Go.RowKit
set_option linter.unusedSimpArgs false
set_option linter.unusedVariables false

set_option maxRecDepth 100000 in
set_option maxHeartbeats 1000000 in
theorem adds_big (p s l f : Int) (A B : Option Addr) (c d n m : Nat) (w : World) (h : 200 < n ∨ 200 < m) :
    Calls Try.prog 8 #[gv p s l f, .slice A n c, .slice B m d] w fun e w' => e = .returned (.bool true) ∧ Below w.heap.size w w' := by
  by_cases hn : 200 < n
  · have q : (200 : Int) < (n : Int) := by omega
    clear h
    go_enter Try.func8, Try.ntmps8
    go_wp2_with fail
    refine (wakes25 _).mono ?_
    rintro e w1 ⟨rfl, hb1⟩
    go_wp2_with fail
    go_ret
    exact ⟨rfl, bel_step (bel_box w _) hb1⟩
  · have hm : 200 < m := by omega
    have q : (200 : Int) < (m : Int) := by omega
    have q2 : ¬ (200 : Int) < (n : Int) := by omega
    clear h
    go_enter Try.func8, Try.ntmps8
    go_wp2_with fail
    refine (wakes25 _).mono ?_
    rintro e w1 ⟨rfl, hb1⟩
    go_wp2_with fail
    go_ret
    exact ⟨rfl, bel_step (bel_box w _) hb1⟩

theorem live_len (p s l f : Int) (ps qs : List Int) : (liveL p s l f ps).length = (liveL p s l f qs).length := by
  unfold liveL
  split <;> simp

theorem live_facts (p s l f : Int) (xs ys : List Int) (k : Nat) (hk : k < (liveL p s l f (ys ++ xs)).length) :
    ∃ u v : Int, (liveL p s l f xs)[k]? = some u ∧ (liveL p s l f ys)[k]? = some v ∧ (liveL p s l f (ys ++ xs))[k]? = some (u + v) ∧ 0 ≤ u ∧ u ≤ xs.length ∧ 0 ≤ v ∧ v ≤ ys.length := by
  by_cases hg : goodB p s l f = true
  · have hk' : k < s.toNat := by rw [liveL_length _ hg] at hk; exact hk
    refine ⟨cnt p s l f xs k, cnt p s l f ys k, liveL_get _ hg k hk', liveL_get _ hg k hk', ?_, by omega, ?_, by omega, ?_⟩
    · rw [liveL_get _ hg k hk', cnt_append]
      congr 1
      omega
    · have := cnt_le p s l f xs k; omega
    · have := cnt_le p s l f ys k; omega
  · have hg : goodB p s l f = false := by simpa using hg
    simp [liveL, hg] at hk

theorem sum_facts (p s l f : Int) (xs ys : List Int) :
    posSum (liveL p s l f (ys ++ xs)) = posSum (liveL p s l f xs) + posSum (liveL p s l f ys) ∧ 0 ≤ posSum (liveL p s l f xs) ∧ posSum (liveL p s l f xs) ≤ xs.length ∧ 0 ≤ posSum (liveL p s l f ys) ∧ posSum (liveL p s l f ys) ≤ ys.length := by
  by_cases hg : goodB p s l f = true
  · rw [posSum_live hg, posSum_live hg, posSum_live hg, inN_append]
    have h1 := inN_le p s l f xs
    have h2 := inN_le p s l f ys
    omega
  · have hg : goodB p s l f = false := by simpa using hg
    rw [posSum_bad hg, posSum_bad hg, posSum_bad hg]
    omega

set_option maxRecDepth 100000 in
set_option maxHeartbeats 2000000 in
theorem adds_main (p s l f : Int) (A B : Option Addr) (c d : Nat) (xs ys : List Int) (w : World) (hx : Rd w A xs) (hy : Rd w B ys) (hlx : xs.length ≤ 200) (hly : ys.length ≤ 200) :
    Calls Try.prog 8 #[gv p s l f, .slice A xs.length c, .slice B ys.length d] w fun e w' => e = .returned (.bool true) ∧ Below w.heap.size w w' := by
  have q1 : ¬ (200 : Int) < (xs.length : Int) := by omega
  have q2 : ¬ (200 : Int) < (ys.length : Int) := by omega
  have HX := Lib.hid hx
  have HY := Lib.hid hy
  clear hx hy
  go_enter Try.func8, Try.ntmps8
  go_wp2_with fail
  generalize hW : w.alloc (.cells #[.int .i64 p, .int .i64 s, .int .i64 l, .int .i64 f] 23) = w1
  have HB1 : Below w.heap.size w w1 := by subst hW; exact bel_box _ _
  have B1 : Blk w1 w.heap.size 23 #[.int .i64 p, .int .i64 s, .int .i64 l, .int .i64 f] := by subst hW; exact blk_new _ _ _
  clear hW
  have x0 := blk_cell B1 0
  have x1 := blk_cell B1 1
  have x2 := blk_cell B1 2
  have x3 := blk_cell B1 3
  simp at x0 x1 x2 x3
  have HBd := bel_draw1 HB1
  first
    | go_region_held3 (fun w' => w'.cell? ⟨w.heap.size, 0, none⟩ = some (.int .i64 p) ∧ w'.cell? ⟨w.heap.size, 1, none⟩ = some (.int .i64 s) ∧ w'.cell? ⟨w.heap.size, 2, none⟩ = some (.int .i64 l) ∧ w'.cell? ⟨w.heap.size, 3, none⟩ = some (.int .i64 f) ∧ Below w.heap.size w w')
        (first | (go_keep; done) | ((try go_split_ands); refine ⟨?_, ?_, ?_, ?_, ?_⟩ <;> (first | assumption | exact bel_keep hbx ‹_› | exact bel_keep1 hbx ‹_› | exact bel_keep hby ‹_› | exact bel_step (by assumption) hbx | exact bel_step HBd hbx | exact bel_step (by assumption) hby | (go_keep; done))))
        (first
          | (go_at_call_of 27 (Value.slice A xs.length c); refine (count27 p s l f A c xs _ ?_ (by omega)).mono ?_; ((try go_split_ands); first | exact rd_keep HX.out HBd | exact rd_keep HX.out (by assumption)); rintro e wx ⟨vx, rfl, sx, hbx⟩)
          | (go_at_call_of 27 (Value.slice B ys.length d); refine (count27 p s l f B d ys _ ?_ (by omega)).mono ?_; ((try go_split_ands); first | exact rd_keep HY.out HBd | exact rd_keep HY.out (by assumption)); rintro e wy ⟨vy, rfl, sy, hby⟩))
    | fail
  go_split_ands
  have HB2 : Below w.heap.size w wy := by assumption
  have y0 : wy.cell? ⟨w.heap.size, 0, none⟩ = some (.int .i64 p) := by assumption
  have y1 : wy.cell? ⟨w.heap.size, 1, none⟩ = some (.int .i64 s) := by assumption
  have y2 : wy.cell? ⟨w.heap.size, 2, none⟩ = some (.int .i64 l) := by assumption
  have y3 : wy.cell? ⟨w.heap.size, 3, none⟩ = some (.int .i64 f) := by assumption
  obtain ⟨Ax, cx, rfl, rx, _⟩ := sl_keep sx hby
  obtain ⟨Ay, cy, rfl, ry, _⟩ := sy
  have RX := Lib.hid rx
  have RY := Lib.hid ry
  clear sx hbx hby rx ry x0 x1 x2 x3 HBd HB1 B1
  go_wp2_with fail
  have RA := Lib.hid (rd_keep HX.out HB2)
  have RB := Lib.hid (rd_keep HY.out HB2)
  have HBd := bel_draw1 (Below.refl wy.heap.size wy)
  first
    | go_region_held3 (fun w' => w'.cell? ⟨w.heap.size, 0, none⟩ = some (.int .i64 p) ∧ w'.cell? ⟨w.heap.size, 1, none⟩ = some (.int .i64 s) ∧ w'.cell? ⟨w.heap.size, 2, none⟩ = some (.int .i64 l) ∧ w'.cell? ⟨w.heap.size, 3, none⟩ = some (.int .i64 f) ∧ Below wy.heap.size wy w')
        (first | (go_keep; done) | ((try go_split_ands); refine ⟨?_, ?_, ?_, ?_, ?_⟩ <;> (first | assumption | exact bel_keep hb2 ‹_› | exact bel_keep hb1 ‹_› | exact bel_keep hbz ‹_› | (go_keep; done) | exact bel_new (by assumption) _ | exact bel_keep (bel_box _ _) (by assumption) | exact bel_step (by assumption) hbz)))
        (first
          | (refine step_app _ rfl (.tmp 27) (.tmp 28) rfl wy.heap.size (.slice (some ⟨wy.heap.size, 0, none⟩) 0 0) 0 [] rfl ?_ B d ys rfl ?_ (by omega) ?_ ?_; (exact own_new wy _ (Nat.le_refl _)); ((try go_split_ands); exact rd_keep RB.out (by assumption)); ((try go_split_ands); exact Below.size (by assumption)); intro v1 w1 hown1 hg1; (try go_split_ands); have hb1 : Below wy.heap.size wy w1 := Below.grown (by assumption) hg1 (Below.size (by assumption)) (by intro k hk; simp [Value.ownBlock] at hk; omega))
          | (refine step_app _ rfl (.tmp 29) (.tmp 30) rfl wy.heap.size v1 (0 + ys.length) ([] ++ ys.map (Value.int .i64)) rfl hown1 A c xs rfl ?_ (by omega) ?_ ?_; (exact rd_keep RA.out hb1); (exact hb1.size); intro v2 w2 hown2 hg2; have hb2 : Below wy.heap.size wy w2 := Below.grown hb1 hg2 hb1.size (own_base hown1))
          | (go_at_call 27; (obtain ⟨A2, c2, rfl, r2, _⟩ := sl_of_own (w := w2) (base := wy.heap.size) (v := v2) (xs := ys ++ xs) (by simpa using hown2)); refine (count27 p s l f A2 c2 (ys ++ xs) _ r2 (by simp; omega)).mono ?_; rintro e wz ⟨vz, rfl, sz, hbz⟩))
    | fail
  go_split_ands
  have HBz : Below wy.heap.size wy wz := by assumption
  have HB3 := bel_step HB2 HBz
  obtain ⟨Az, cz, rfl, rz, _⟩ := sz
  have RX3 := Lib.hid (rd_keep RX.out HBz)
  have RY3 := Lib.hid (rd_keep RY.out HBz)
  have RZ3 := Lib.hid rz
  have F := Lib.hid (live_facts p s l f xs ys)
  have SF := sum_facts p s l f xs ys
  have LX := Lib.hid (live_bd (p := p) (s := s) (l := l) (f := f) xs)
  have LY := Lib.hid (live_bd (p := p) (s := s) (l := l) (f := f) ys)
  have LZ := Lib.hid (live_bd (p := p) (s := s) (l := l) (f := f) (ys ++ xs))
  have NX := live_len p s l f xs (ys ++ xs)
  have NY := live_len p s l f ys (ys ++ xs)
  clear RX RY rz hbz hb2 hb1 hown2 hown1 hg1 hg2 r2 y0 y1 y2 y3 HBd RA RB HX HY
  have hN : (liveL p s l f (ys ++ xs)).length ≤ 100 := by
    unfold liveL
    split
    · rename_i hg
      have := goodB_iff.1 hg
      simp; omega
    · simp
  generalize liveL p s l f xs = X at *
  generalize liveL p s l f ys = Y at *
  generalize liveL p s l f (ys ++ xs) = Z at *
  have e1 : ((X.length : Int) != (Z.length : Int)) = false := by simp [NX]
  have e2 : ((Y.length : Int) != (Z.length : Int)) = false := by simp [NY]
  have NX' := Lib.hid NX
  have NY' := Lib.hid NY
  clear NX NY
  go_wp2_with fail
  clear e1 e2
  have HSF := Lib.hid SF
  clear SF
  go_loopg [10] Z.length (fun gk s10 wr => ∃ k : Nat, k ≤ Z.length ∧ gk = Z.length - k ∧ s10 = .int .i64 k ∧ Below wz.heap.size wz wr)
  case atStart => exact ⟨0, Nat.zero_le _, rfl, rfl, Below.refl _ _⟩
  case round =>
    obtain ⟨k, hk, hgk, rfl, HB⟩ := hrel
    by_cases hlt : k < Z.length
    · obtain ⟨u, v, hu, hv, huv, hu0, hu1, hv0, hv1⟩ := F.out k hlt
      have hlX : k < X.length := by rw [NX'.out]; exact hlt
      have hlY : k < Y.length := by rw [NY'.out]; exact hlt
      obtain ⟨bx, ox, u', rfl, hu', cx1⟩ := rd_at (rd_keep RX3.out HB) hlX
      obtain ⟨by_, oy, v', rfl, hv', cy1⟩ := rd_at (rd_keep RY3.out HB) hlY
      obtain ⟨bz, oz, z', rfl, hz', cz1⟩ := rd_at (rd_keep RZ3.out HB) hlt
      obtain rfl : u' = u := by rw [hu] at hu'; exact (Option.some.inj hu').symm
      obtain rfl : v' = v := by rw [hv] at hv'; exact (Option.some.inj hv').symm
      obtain rfl : z' = u' + v' := by rw [huv] at hz'; exact (Option.some.inj hz').symm
      have q0 : (0 : Int) ≤ (k : Int) := Int.natCast_nonneg _
      have q1 : (k : Int) < (X.length : Int) := by omega
      have q2 : (k : Int) < (Y.length : Int) := by omega
      have q3 : (k : Int) < (Z.length : Int) := by omega
      have r1 : IntKind.i64.wrap (u' + v') = u' + v' := i64_of _ (by omega) (by omega)
      have r2 : decide (u' < 0) = false := by simp; omega
      have r3 : decide ((xs.length : Int) < u') = false := by simp; omega
      clear hu hv huv hu' hv' hz'
      go_wp2_with fail
      go_quiet (fail)
      go_wp2_with fail
      clear r1 r2 r3
      go_roundg (Z.length - (k + 1))
      case measure => omega
      case rel => exact ⟨k + 1, by omega, rfl, by go_num, bel_draw HB _⟩
    · obtain ⟨t1, t2, t3, t4, t5⟩ := HSF.out
      have T1 := Lib.hid t1
      clear t1
      have hXl : X.length ≤ 1000 := by have := NX'.out; omega
      have hYl : Y.length ≤ 1000 := by have := NY'.out; omega
      go_wp2_with fail
      refine (sum31 _ _ Z _ (rd_keep RZ3.out HB) (by omega) (fun x hx => by have := LZ.out x hx; simp at this; omega)).mono ?_
      rintro e wa ⟨rfl, hba⟩
      have HBa := bel_step HB hba
      clear hba
      go_wp2_with fail
      refine (sum31 _ _ X _ (rd_keep RX3.out HBa) hXl (fun x hx => by have := LX.out x hx; omega)).mono ?_
      rintro e wb ⟨rfl, hbb⟩
      have HBb := bel_step HBa hbb
      clear hbb HBa
      go_wp2_with fail
      refine (sum31 _ _ Y _ (rd_keep RY3.out HBb) hYl (fun x hx => by have := LY.out x hx; omega)).mono ?_
      rintro e wc ⟨rfl, hbc⟩
      have HBc := bel_step HBb hbc
      clear hbc HBb
      rw [T1.out]
      go_wp2_with fail
      refine (sum31 _ _ X _ (rd_keep RX3.out HBc) hXl (fun x hx => by have := LX.out x hx; omega)).mono ?_
      rintro e wd ⟨rfl, hbd⟩
      have HBd := bel_step HBc hbd
      clear hbd HBc
      go_wp2_with fail
      refine (free29 none 0 [] 0 _ rd_nil (by simp)).mono ?_
      rintro e we ⟨v, rfl, sv, hbe⟩
      have HBe := bel_step HBd hbe
      clear hbe HBd
      obtain ⟨Av, cv, rfl, _, _⟩ := sv
      rw [show (freeL [] 0).length = 0 by decide]
      go_wp2_with fail
      refine (wakes25 _).mono ?_
      rintro e wf ⟨rfl, hbf⟩
      go_wp2_with fail
      go_ret
      exact ⟨rfl, bel_step HB3 (bel_step HBe hbf)⟩

theorem usageAdds (p s l f : Int) (A : Option Addr) (n c : Nat) (zs : List Int) (B : Option Addr) (m d : Nat) (us : List Int) (w : World) (h1 : IsRow w A n c zs) (h2 : IsRow w B m d us) :
    Calls Try.prog 8 #[gv p s l f, .slice A n c, .slice B m d] w fun e w' => e = .returned (.bool true) ∧ Below w.heap.size w w' := by
  by_cases hb : 200 < n ∨ 200 < m
  · exact adds_big p s l f A B c d n m w hb
  · obtain ⟨r1, l1, _, _⟩ := rd_of_row h1
    obtain ⟨r2, l2, _, _⟩ := rd_of_row h2
    have := adds_main p s l f A B c d (zs.take n) (us.take m) w r1 r2 (by omega) (by omega)
    rw [l1, l2] at this
    exact this
end Go.Proofs.Ytecjccjgcdnpnaa
