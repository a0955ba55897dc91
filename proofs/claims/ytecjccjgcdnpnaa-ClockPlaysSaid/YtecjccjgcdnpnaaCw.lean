/- The waking of the clock's laws. -/
import Derived.Test.YtecjccjgcdnpnaaCv
namespace Go.Proofs.Ytecjccjgcdnpnaa
open Go.RowKit
set_option linter.unusedSimpArgs false
set_option linter.unusedVariables false

set_option maxRecDepth 100000 in
set_option maxHeartbeats 2000000 in
theorem wakes33 (w : World) :
    Calls Try.prog 33 #[] w fun e w' => e = .returned (.bool true) ∧ Below w.heap.size w w' := by
  go_enter Try.func33, Try.ntmps33
  go_wp2_with fail
  refine (new32 2 _ (by omega) (by omega)).mono ?_
  rintro e w0 ⟨cb, fb, rfl, hc, hcb, hfb, HB0⟩
  have H0 : Hid (CA w0 cb fb [⟨-1, false, 0⟩, ⟨-1, false, 0⟩] 0) := Lib.hid hc
  clear hc
  have C0 : Calls Try.prog 34 #[.pointer (some ⟨cb, 0, none⟩)] w0 fun e w' => e = .returned (.tuple #[.int .i64 0, .bool true]) ∧ CA w' cb fb [⟨-1, false, 0⟩, ⟨-1, false, 0⟩] 0 ∧ Only cb fb w0 w' := by
    have h := victim34 cb fb ([⟨-1, false, 0⟩, ⟨-1, false, 0⟩] : List Fr) 0 w0 H0.out (by simp)
    rw [show victimR ([⟨-1, false, 0⟩, ⟨-1, false, 0⟩] : List Fr) 0 = (some 0, [⟨-1, false, 0⟩, ⟨-1, false, 0⟩], 0) from rfl] at h
    exact h
  have HC0 := Lib.hid C0
  clear C0
  go_wp2_with fail
  refine HC0.out.mono ?_
  rintro e w1 ⟨rfl, hc, ho⟩
  have HB1 := only_below HB0 ho hcb hfb (Nat.le_refl _)
  have H1 := Lib.hid hc
  clear hc HC0
  have C1 : Calls Try.prog 36 #[.pointer (some ⟨cb, 0, none⟩), .int .i64 0, .int .i64 7] w1 fun e w' => e = .returned (.bool true) ∧ CA w' cb fb [⟨7, true, 0⟩, ⟨-1, false, 0⟩] 0 ∧ Only cb fb w1 w' := by
    have h := put36 cb fb ([⟨-1, false, 0⟩, ⟨-1, false, 0⟩] : List Fr) 0 (0) (7) w1 H1.out
    rw [show putR ([⟨-1, false, 0⟩, ⟨-1, false, 0⟩] : List Fr) (0) (7) = (true, [⟨7, true, 0⟩, ⟨-1, false, 0⟩]) from rfl] at h
    exact h
  have HC1 := Lib.hid C1
  clear C1
  go_wp2_with fail
  refine HC1.out.mono ?_
  rintro e w2 ⟨rfl, hc, ho⟩
  have HB2 := only_below HB1 ho hcb hfb (Nat.le_refl _)
  have H2 := Lib.hid hc
  clear hc HC1
  have C2 : Calls Try.prog 36 #[.pointer (some ⟨cb, 0, none⟩), .int .i64 1, .int .i64 8] w2 fun e w' => e = .returned (.bool true) ∧ CA w' cb fb [⟨7, true, 0⟩, ⟨8, true, 0⟩] 0 ∧ Only cb fb w2 w' := by
    have h := put36 cb fb ([⟨7, true, 0⟩, ⟨-1, false, 0⟩] : List Fr) 0 (1) (8) w2 H2.out
    rw [show putR ([⟨7, true, 0⟩, ⟨-1, false, 0⟩] : List Fr) (1) (8) = (true, [⟨7, true, 0⟩, ⟨8, true, 0⟩]) from rfl] at h
    exact h
  have HC2 := Lib.hid C2
  clear C2
  go_wp2_with fail
  refine HC2.out.mono ?_
  rintro e w3 ⟨rfl, hc, ho⟩
  have HB3 := only_below HB2 ho hcb hfb (Nat.le_refl _)
  have H3 := Lib.hid hc
  clear hc HC2
  have C3 : Calls Try.prog 36 #[.pointer (some ⟨cb, 0, none⟩), .int .i64 0, .int .i64 8] w3 fun e w' => e = .returned (.bool false) ∧ CA w' cb fb [⟨7, true, 0⟩, ⟨8, true, 0⟩] 0 ∧ Only cb fb w3 w' := by
    have h := put36 cb fb ([⟨7, true, 0⟩, ⟨8, true, 0⟩] : List Fr) 0 (0) (8) w3 H3.out
    rw [show putR ([⟨7, true, 0⟩, ⟨8, true, 0⟩] : List Fr) (0) (8) = (false, [⟨7, true, 0⟩, ⟨8, true, 0⟩]) from rfl] at h
    exact h
  have HC3 := Lib.hid C3
  clear C3
  go_wp2_with fail
  refine HC3.out.mono ?_
  rintro e w4 ⟨rfl, hc, ho⟩
  have HB4 := only_below HB3 ho hcb hfb (Nat.le_refl _)
  have H4 := Lib.hid hc
  clear hc HC3
  have C4 : Calls Try.prog 35 #[.pointer (some ⟨cb, 0, none⟩), .int .i64 8] w4 fun e w' => e = .returned (.tuple #[.int .i64 1, .bool true]) ∧ Below w4.heap.size w4 w' := by
    have h := find35 cb fb ([⟨7, true, 0⟩, ⟨8, true, 0⟩] : List Fr) 0 (8) w4 H4.out
    rw [show findR ([⟨7, true, 0⟩, ⟨8, true, 0⟩] : List Fr) (8) = some 1 from rfl] at h
    exact h
  have HC4 := Lib.hid C4
  clear C4
  go_wp2_with fail
  refine HC4.out.mono ?_
  rintro e w5 ⟨rfl, hb⟩
  have hc := ca_keep H4.out hb
  have HB5 := bel_step HB4 hb
  clear hb
  have H5 := Lib.hid hc
  clear hc HC4
  have C5 : Calls Try.prog 37 #[.pointer (some ⟨cb, 0, none⟩), .int .i64 0] w5 fun e w' => e = .returned (.bool true) ∧ CA w' cb fb [⟨7, true, 1⟩, ⟨8, true, 0⟩] 0 ∧ Only cb fb w5 w' := by
    have h := pin37 cb fb ([⟨7, true, 0⟩, ⟨8, true, 0⟩] : List Fr) 0 (0) w5 H5.out (by intro f hf; simp at hf; rcases hf with rfl | rfl <;> simp)
    rw [show pinR ([⟨7, true, 0⟩, ⟨8, true, 0⟩] : List Fr) (0) = (true, [⟨7, true, 1⟩, ⟨8, true, 0⟩]) from rfl] at h
    exact h
  have HC5 := Lib.hid C5
  clear C5
  go_wp2_with fail
  refine HC5.out.mono ?_
  rintro e w6 ⟨rfl, hc, ho⟩
  have HB6 := only_below HB5 ho hcb hfb (Nat.le_refl _)
  have H6 := Lib.hid hc
  clear hc HC5
  have C6 : Calls Try.prog 34 #[.pointer (some ⟨cb, 0, none⟩)] w6 fun e w' => e = .returned (.tuple #[.int .i64 1, .bool true]) ∧ CA w' cb fb [⟨7, true, 1⟩, ⟨8, false, 0⟩] 0 ∧ Only cb fb w6 w' := by
    have h := victim34 cb fb ([⟨7, true, 1⟩, ⟨8, true, 0⟩] : List Fr) 0 w6 H6.out (by simp)
    rw [show victimR ([⟨7, true, 1⟩, ⟨8, true, 0⟩] : List Fr) 0 = (some 1, [⟨7, true, 1⟩, ⟨8, false, 0⟩], 0) from rfl] at h
    exact h
  have HC6 := Lib.hid C6
  clear C6
  go_wp2_with fail
  refine HC6.out.mono ?_
  rintro e w7 ⟨rfl, hc, ho⟩
  have HB7 := only_below HB6 ho hcb hfb (Nat.le_refl _)
  have H7 := Lib.hid hc
  clear hc HC6
  have C7 : Calls Try.prog 37 #[.pointer (some ⟨cb, 0, none⟩), .int .i64 1] w7 fun e w' => e = .returned (.bool true) ∧ CA w' cb fb [⟨7, true, 1⟩, ⟨8, false, 1⟩] 0 ∧ Only cb fb w7 w' := by
    have h := pin37 cb fb ([⟨7, true, 1⟩, ⟨8, false, 0⟩] : List Fr) 0 (1) w7 H7.out (by intro f hf; simp at hf; rcases hf with rfl | rfl <;> simp)
    rw [show pinR ([⟨7, true, 1⟩, ⟨8, false, 0⟩] : List Fr) (1) = (true, [⟨7, true, 1⟩, ⟨8, false, 1⟩]) from rfl] at h
    exact h
  have HC7 := Lib.hid C7
  clear C7
  go_wp2_with fail
  refine HC7.out.mono ?_
  rintro e w8 ⟨rfl, hc, ho⟩
  have HB8 := only_below HB7 ho hcb hfb (Nat.le_refl _)
  have H8 := Lib.hid hc
  clear hc HC7
  have C8 : Calls Try.prog 34 #[.pointer (some ⟨cb, 0, none⟩)] w8 fun e w' => e = .returned (.tuple #[.int .i64 0, .bool false]) ∧ CA w' cb fb [⟨7, true, 1⟩, ⟨8, false, 1⟩] 0 ∧ Only cb fb w8 w' := by
    have h := victim34 cb fb ([⟨7, true, 1⟩, ⟨8, false, 1⟩] : List Fr) 0 w8 H8.out (by simp)
    rw [show victimR ([⟨7, true, 1⟩, ⟨8, false, 1⟩] : List Fr) 0 = (none, [⟨7, true, 1⟩, ⟨8, false, 1⟩], 0) from rfl] at h
    exact h
  have HC8 := Lib.hid C8
  clear C8
  go_wp2_with fail
  refine HC8.out.mono ?_
  rintro e w9 ⟨rfl, hc, ho⟩
  have HB9 := only_below HB8 ho hcb hfb (Nat.le_refl _)
  have H9 := Lib.hid hc
  clear hc HC8
  have C9 : Calls Try.prog 41 #[.pointer (some ⟨cb, 0, none⟩), .int .i64 0] w9 fun e w' => e = .returned (.tuple #[.int .i64 7, .bool true]) ∧ w' = w9 := by
    have h := key41 cb fb ([⟨7, true, 1⟩, ⟨8, false, 1⟩] : List Fr) 0 (0) w9 H9.out
    rw [show keyR ([⟨7, true, 1⟩, ⟨8, false, 1⟩] : List Fr) (0) = (7, true) from rfl] at h
    exact h
  have HC9 := Lib.hid C9
  clear C9
  go_wp2_with fail
  refine HC9.out.mono ?_
  rintro e w10 ⟨rfl, hw⟩
  obtain rfl := hw
  have hc := H9.out
  have HB10 := HB9
  have H10 := Lib.hid hc
  clear hc HC9
  have C10 : Calls Try.prog 51 #[.pointer (some ⟨cb, 0, none⟩)] w10 fun e w' => e = .returned (.int .i64 2) ∧ Below w10.heap.size w10 w' := by
    have h := pinned51 cb fb ([⟨7, true, 1⟩, ⟨8, false, 1⟩] : List Fr) 0 w10 H10.out
    rw [show pinnedN ([⟨7, true, 1⟩, ⟨8, false, 1⟩] : List Fr) = 2 from rfl] at h
    exact h
  have HC10 := Lib.hid C10
  clear C10
  go_wp2_with fail
  refine HC10.out.mono ?_
  rintro e w11 ⟨rfl, hb⟩
  have hc := ca_keep H10.out hb
  have HB11 := bel_step HB10 hb
  clear hb
  have H11 := Lib.hid hc
  clear hc HC10
  have C11 : Calls Try.prog 39 #[.pointer (some ⟨cb, 0, none⟩), .int .i64 0] w11 fun e w' => e = .returned (.int .i64 1) ∧ w' = w11 := by
    have h := pins39 cb fb ([⟨7, true, 1⟩, ⟨8, false, 1⟩] : List Fr) 0 (0) w11 H11.out
    rw [show pinsR ([⟨7, true, 1⟩, ⟨8, false, 1⟩] : List Fr) (0) = 1 from rfl] at h
    exact h
  have HC11 := Lib.hid C11
  clear C11
  go_wp2_with fail
  refine HC11.out.mono ?_
  rintro e w12 ⟨rfl, hw⟩
  obtain rfl := hw
  have hc := H11.out
  have HB12 := HB11
  have H12 := Lib.hid hc
  clear hc HC11
  have C12 : Calls Try.prog 38 #[.pointer (some ⟨cb, 0, none⟩), .int .i64 0] w12 fun e w' => e = .returned (.bool true) ∧ CA w' cb fb [⟨7, true, 0⟩, ⟨8, false, 1⟩] 0 ∧ Only cb fb w12 w' := by
    have h := unpin38 cb fb ([⟨7, true, 1⟩, ⟨8, false, 1⟩] : List Fr) 0 (0) w12 H12.out (by intro f hf; simp at hf; rcases hf with rfl | rfl <;> simp)
    rw [show unpinR ([⟨7, true, 1⟩, ⟨8, false, 1⟩] : List Fr) (0) = (true, [⟨7, true, 0⟩, ⟨8, false, 1⟩]) from rfl] at h
    exact h
  have HC12 := Lib.hid C12
  clear C12
  go_wp2_with fail
  refine HC12.out.mono ?_
  rintro e w13 ⟨rfl, hc, ho⟩
  have HB13 := only_below HB12 ho hcb hfb (Nat.le_refl _)
  have H13 := Lib.hid hc
  clear hc HC12
  have C13 : Calls Try.prog 38 #[.pointer (some ⟨cb, 0, none⟩), .int .i64 0] w13 fun e w' => e = .returned (.bool false) ∧ CA w' cb fb [⟨7, true, 0⟩, ⟨8, false, 1⟩] 0 ∧ Only cb fb w13 w' := by
    have h := unpin38 cb fb ([⟨7, true, 0⟩, ⟨8, false, 1⟩] : List Fr) 0 (0) w13 H13.out (by intro f hf; simp at hf; rcases hf with rfl | rfl <;> simp)
    rw [show unpinR ([⟨7, true, 0⟩, ⟨8, false, 1⟩] : List Fr) (0) = (false, [⟨7, true, 0⟩, ⟨8, false, 1⟩]) from rfl] at h
    exact h
  have HC13 := Lib.hid C13
  clear C13
  go_wp2_with fail
  refine HC13.out.mono ?_
  rintro e w14 ⟨rfl, hc, ho⟩
  have HB14 := only_below HB13 ho hcb hfb (Nat.le_refl _)
  have H14 := Lib.hid hc
  clear hc HC13
  have C14 : Calls Try.prog 40 #[.pointer (some ⟨cb, 0, none⟩), .int .i64 1] w14 fun e w' => e = .returned (.bool false) ∧ CA w' cb fb [⟨7, true, 0⟩, ⟨8, false, 1⟩] 0 ∧ Only cb fb w14 w' := by
    have h := drop40 cb fb ([⟨7, true, 0⟩, ⟨8, false, 1⟩] : List Fr) 0 (1) w14 H14.out
    rw [show dropR ([⟨7, true, 0⟩, ⟨8, false, 1⟩] : List Fr) (1) = (false, [⟨7, true, 0⟩, ⟨8, false, 1⟩]) from rfl] at h
    exact h
  have HC14 := Lib.hid C14
  clear C14
  go_wp2_with fail
  refine HC14.out.mono ?_
  rintro e w15 ⟨rfl, hc, ho⟩
  have HB15 := only_below HB14 ho hcb hfb (Nat.le_refl _)
  have H15 := Lib.hid hc
  clear hc HC14
  have C15 : Calls Try.prog 40 #[.pointer (some ⟨cb, 0, none⟩), .int .i64 0] w15 fun e w' => e = .returned (.bool true) ∧ CA w' cb fb [⟨-1, false, 0⟩, ⟨8, false, 1⟩] 0 ∧ Only cb fb w15 w' := by
    have h := drop40 cb fb ([⟨7, true, 0⟩, ⟨8, false, 1⟩] : List Fr) 0 (0) w15 H15.out
    rw [show dropR ([⟨7, true, 0⟩, ⟨8, false, 1⟩] : List Fr) (0) = (true, [⟨-1, false, 0⟩, ⟨8, false, 1⟩]) from rfl] at h
    exact h
  have HC15 := Lib.hid C15
  clear C15
  go_wp2_with fail
  refine HC15.out.mono ?_
  rintro e w16 ⟨rfl, hc, ho⟩
  have HB16 := only_below HB15 ho hcb hfb (Nat.le_refl _)
  have H16 := Lib.hid hc
  clear hc HC15
  go_wp2_with fail
  go_ret
  exact ⟨rfl, HB16⟩
end Go.Proofs.Ytecjccjgcdnpnaa
