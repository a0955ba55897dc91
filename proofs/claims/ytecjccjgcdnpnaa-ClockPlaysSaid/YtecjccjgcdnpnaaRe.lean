/- Contract of the reference clock's New; what the methods keep. -/
import Derived.Test.YtecjccjgcdnpnaaRd
import Derived.Test.YtecjccjgcdnpnaaUt
namespace Go.Proofs.Ytecjccjgcdnpnaa
open Go.RowKit
set_option linter.unusedSimpArgs false
set_option linter.unusedVariables false

def zCell (j : Nat) : Value := if j % 3 = 0 then .int .i64 (-1) else if j % 3 = 1 then .int .i64 0 else .bool false
def flatZ (k : Nat) : List Value := (List.range (k * 3)).map zCell
theorem flatZ_length (k : Nat) : (flatZ k).length = k * 3 := by simp [flatZ]
theorem flatZ_succ (k : Nat) : flatZ (k + 1) = flatZ k ++ [.int .i64 (-1), .int .i64 0, .bool false] := by
  have h0 : zCell (k * 3) = .int .i64 (-1) := by unfold zCell; rw [if_pos (by omega)]
  have h1 : zCell (k * 3 + 1) = .int .i64 0 := by unfold zCell; rw [if_neg (by omega), if_pos (by omega)]
  have h2 : zCell (k * 3 + 2) = .bool false := by unfold zCell; rw [if_neg (by omega), if_neg (by omega)]
  unfold flatZ
  rw [show (k + 1) * 3 = k * 3 + 1 + 1 + 1 by omega, List.range_succ, List.range_succ, List.range_succ]
  simp [h0, h1, h2]
theorem flatZ_get (k j : Nat) (h : j < k * 3) : (flatZ k)[j]? = some (zCell j) := by simp [flatZ, h]

theorem info67 : (Try.prog.info? 67).map (fun i => (i.zero, i.size, i.bytes)) = some (some (.agg #[.int .i64 0, .int .i64 0, .bool false]), 3, 24) := by kernel_rfl

theorem own_slice {w : World} {base e size n : Nat} {v : Value} {xs : List Value} (h : w.ownsRow base e size v n xs) (hn : 0 < n) : ∃ g c, v = .slice (some ⟨g, 0, none⟩) n c := by
  rcases h.2 with ⟨_, h⟩ | ⟨g, cap, _, h, _⟩
  · omega
  · exact ⟨g, cap, h⟩
theorem own_base3 {w : World} {base e size n : Nat} {v : Value} {xs : List Value} (h : w.ownsRow base e size v n xs) : ∀ k, v.ownBlock = some k → base ≤ k := by
  rcases h.2 with ⟨rfl, _⟩ | ⟨g, cap, cur, rfl, hb, _⟩
  · intro k hk; simp [Value.ownBlock] at hk
  · intro k hk
    simp [Value.ownBlock] at hk
    omega

theorem ra_made {w : World} {qb base cap0 n : Nat} {v : Value} (hb : Blk w qb 65 #[v, .int .i64 0]) (ho : w.ownsRow base 67 3 v n (flatZ n)) (h1 : 1 ≤ n) (h2 : n ≤ 16) :
    ∃ gb cap, base ≤ gb ∧ RA w qb gb cap (List.replicate n ⟨-1, false, 0⟩) 0 := by
  rcases ho.2 with ⟨_, h⟩ | ⟨g, cap, cur, rfl, hbg, hg, hn, hm, hs, ht⟩
  · omega
  · refine ⟨g, cap, hbg, by simpa using hb, ⟨cur, hg, fun i f hf => ?_⟩, by simpa using h2⟩
    rw [List.getElem?_replicate] at hf
    split at hf
    · rename_i hi
      injection hf with hf
      subst hf
      have hget : ∀ j, j < n * 3 → cur[j]? = some (zCell j) := by
        intro j hj
        have := flatZ_get n j hj
        rw [← ht, List.getElem?_take] at this
        rw [if_pos hj] at this
        simpa using this
      have h0 : zCell (i * 3) = .int .i64 (-1) := by unfold zCell; rw [if_pos (by omega)]
      have h1 : zCell (i * 3 + 1) = .int .i64 0 := by unfold zCell; rw [if_neg (by omega), if_pos (by omega)]
      have h2 : zCell (i * 3 + 2) = .bool false := by unfold zCell; rw [if_neg (by omega), if_neg (by omega)]
      exact ⟨(hget _ (by omega)).trans (by rw [h0]), (hget _ (by omega)).trans (by rw [h1]), (hget _ (by omega)).trans (by rw [h2])⟩
    · cases hf

set_option maxHeartbeats 400000 in
theorem new42_bad (n : Int) (w : World) (h : n < 1 ∨ 16 < n) :
    Calls Try.prog 42 #[.int .i64 n] w fun e w' => e = .returned (.tuple #[.pointer none, .int .i64 1]) ∧ w' = w := by
  by_cases h1 : n < 1
  · clear h
    go_enter Try.func42, Try.ntmps42
    go_wp2_with fail
    go_ret2
    exact ⟨rfl, rfl⟩
  · have h2 : 16 < n := by omega
    clear h
    go_enter Try.func42, Try.ntmps42
    go_wp2_with fail
    go_ret2
    exact ⟨rfl, rfl⟩

set_option maxRecDepth 100000 in
set_option maxHeartbeats 4000000 in
theorem new42 (n : Nat) (w : World) (h1 : 1 ≤ n) (h2 : n ≤ 16) :
    Calls Try.prog 42 #[.int .i64 n] w fun e w' => ∃ qb gb cap, e = .returned (.tuple #[.pointer (some ⟨qb, 0, none⟩), .int .i64 0]) ∧ RA w' qb gb cap (List.replicate n ⟨-1, false, 0⟩) 0 ∧ w.heap.size ≤ qb ∧ w.heap.size ≤ gb ∧ Below w.heap.size w w' := by
  obtain ⟨i0, hi0, hz0, hz1, hz2⟩ := info_parts info67
  have HI := Lib.hid (And.intro hi0 (And.intro hz0 (And.intro hz1 hz2)))
  clear hi0 hz0 hz1 hz2
  go_enter Try.func42, Try.ntmps42
  go_wp2_with fail
  have hb0 := blk_new w 65 #[.slice none 0 0, .int .i64 0]
  have hB0 := bel_box w (.cells #[.slice none 0 0, .int .i64 0] 65)
  have hs0 : w.heap.size + 1 ≤ (w.alloc (.cells #[.slice none 0 0, .int .i64 0] 65)).heap.size := by simp
  go_loopg [5] n (fun gk s5 wr => ∃ (k : Nat) (v : Value), k ≤ n ∧ gk = n - k ∧ s5 = .int .i64 k ∧ Blk wr w.heap.size 65 #[v, .int .i64 0] ∧ wr.ownsRow (w.heap.size + 1) 67 3 v k (flatZ k) ∧ Below w.heap.size w wr ∧ w.heap.size + 1 ≤ wr.heap.size)
  case atStart => exact ⟨0, _, Nat.zero_le _, rfl, rfl, hb0, ⟨rfl, .inl ⟨rfl, rfl⟩⟩, hB0, hs0⟩
  case round =>
    clear hb0 hB0 hs0
    obtain ⟨k, v, hk, hgk, rfl, hb, hown, HB, hsz⟩ := hrel
    have BB := Lib.hid hb
    have HO := Lib.hid hown
    clear hb hown
    by_cases hlt : k < n
    · have x0 := blk_cell BB.out 0
      simp at x0
      have x1 := blk_cell (blk_alloc BB.out (.cells #[.int .i64 (-1), .int .i64 0, .bool false] 67)) 0
      simp at x1
      have HOA := Lib.hid (HO.out.alloc (.cells #[.int .i64 (-1), .int .i64 0, .bool false] 67))
      go_wp2_with (at_builtin; go_must (refine wpList_append_own _ rfl (.tmp 23) (.tmp 25) 63 rfl (w.heap.size + 1) 67 i0 (.agg #[.int .i64 0, .int .i64 0, .bool false]) 3 24 Try.underlying63 HI.out.1 HI.out.2.1 HI.out.2.2.1 HI.out.2.2.2 rfl (by omega) _ _ _ rfl HOA.out ⟨wr.heap.size, 0, none⟩ 1 1 [.int .i64 (-1), .int .i64 0, .bool false] rfl rfl (World.news_of_block (cs := #[.int .i64 (-1), .int .i64 0, .bool false]) (t := 67) (fr := (0, 0)) (heap_alloc_new wr _)) (by simp [Value.oneCell']) (by simp only [maxLen]; omega) (by omega) (by simp; omega) ?_); intro v' w5 hown' hgrow _; obtain ⟨g5, c5, rfl⟩ := own_slice hown' (Nat.succ_pos k); have hbb := (((Below.refl (w.heap.size + 1) wr).alloc hsz (.cells #[.int .i64 (-1), .int .i64 0, .bool false] 67)).grown hgrow (by simp; omega) (own_base3 HOA.out)); have B5 := blk_below BB.out hbb (Nat.lt_succ_self _); have z5 := blk_froz B5 0; have x5 := blk_cell B5 0; simp at x5)
      have BS := Lib.hid (blk_set B5 0 (.slice (some ⟨g5, 0, none⟩) (k + 1) c5))
      have HO5 := Lib.hid (ownsRow_setCell_below hown' (a := ⟨w.heap.size, 0, none⟩) (Nat.lt_succ_self _) (.slice (some ⟨g5, 0, none⟩) (k + 1) c5))
      have HB5 := Lib.hid (bel_set (HB.trans (hbb.mono (Nat.le_succ _))) ⟨w.heap.size, 0, none⟩ (.slice (some ⟨g5, 0, none⟩) (k + 1) c5) (Nat.le_refl _))
      have hs5 := hbb.size
      clear hown' hgrow hbb B5 z5 x5
      go_wp2_with fail
      go_roundg (n - (k + 1))
      case measure => omega
      case rel => exact ⟨k + 1, _, by omega, rfl, by go_num, BS.out, by rw [flatZ_succ]; exact HO5.out, HB5.out, by simp; omega⟩
    · obtain rfl : n = k := by omega
      go_wp2_with fail
      go_ret2
      obtain ⟨gb, cap, hgb, HR⟩ := ra_made (cap0 := 0) BB.out HO.out h1 h2
      exact ⟨_, gb, cap, rfl, HR, Nat.le_refl _, by omega, HB⟩
end Go.Proofs.Ytecjccjgcdnpnaa
