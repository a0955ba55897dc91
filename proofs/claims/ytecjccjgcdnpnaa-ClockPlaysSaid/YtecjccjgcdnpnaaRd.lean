/- Contracts of the reference clock's New, Put and Victim; what the methods keep. -/
import Derived.Test.YtecjccjgcdnpnaaRc
namespace Go.Proofs.Ytecjccjgcdnpnaa
open Go.RowKit
set_option linter.unusedSimpArgs false
set_option linter.unusedVariables false

set_option maxHeartbeats 1000000 in
theorem put44 (qb gb cap : Nat) (fr : List Fr) (hand m : Nat) (i key : Int) (w : World) (h : RA w qb gb cap fr hand) (I : RInv fr m) :
    Calls Try.prog 44 #[.pointer (some ⟨qb, 0, none⟩), .int .i64 i, .int .i64 key] w fun e w' => e = .returned (.bool (putR fr i key).1) ∧ RA w' qb gb cap (putR fr i key).2 hand ∧ Only qb gb w w' := by
  have H := Lib.hid h
  have h53 := has53 qb gb cap fr hand i w h
  have h45 := find45 qb gb cap fr hand key w h
  obtain ⟨x0, _, _⟩ := ra_slice h
  cases hq : frAt fr i with
  | none =>
    have hr : putR fr i key = (false, fr) := by simp only [putR, hq]
    rw [frAt_has hq] at h53
    have H53 := Lib.hid h53
    rw [hr]
    clear h hq hr h53 h45 x0
    go_enter Try.func44, Try.ntmps44
    go_wp2_with fail
    refine H53.out.mono ?_
    rintro e w1 ⟨rfl, rfl⟩
    go_wp2_with fail
    go_ret
    exact ⟨rfl, H.out, only_refl _ _ _⟩
  | some f =>
    obtain ⟨k, rfl, hk, hf⟩ := frAt_some hq
    obtain ⟨c0, c1, c2, z0, z1, z2⟩ := ra_cells h hf
    obtain ⟨p0, p1⟩ := I.bd k f hf
    have HF := Lib.hid hf
    rw [has_in hk] at h53
    have H53 := Lib.hid h53
    have q0 : (0 : Int) ≤ (k : Int) := Int.natCast_nonneg _
    have q1 : (k : Int) < (fr.length : Int) := by omega
    by_cases hn : 0 < f.pins
    · have hr := put_pinned (key := key) hf hn
      have e1 : decide (f.pins > 0) = true := decide_eq_true hn
      rw [hr]
      clear h hq hr hf h53 h45
      go_enter Try.func44, Try.ntmps44
      go_wp2_with fail
      refine H53.out.mono ?_
      rintro e w1 ⟨rfl, rfl⟩
      go_wp2_with fail
      go_ret
      exact ⟨rfl, H.out, only_refl _ _ _⟩
    · have e1 : decide (f.pins > 0) = false := decide_eq_false hn
      by_cases hkey : key < 0
      · have hr := put_neg (key := key) hf hkey
        have e2 : decide (key < 0) = true := decide_eq_true hkey
        rw [hr]
        clear h hq hr hf h53 h45
        go_enter Try.func44, Try.ntmps44
        go_wp2_with fail
        refine H53.out.mono ?_
        rintro e w1 ⟨rfl, rfl⟩
        go_wp2_with fail
        go_ret
        exact ⟨rfl, H.out, only_refl _ _ _⟩
      · have e2 : decide (key < 0) = false := decide_eq_false hkey
        have hk0 : 0 ≤ key := by omega
        rw [findR_nn hk0] at h45
        cases hF : findF fr key with
        | none =>
          have hr := put_ok (i := k) hf hk0 (by omega) (.inl hF)
          rw [hF] at h45
          have H45 : Hid (Calls Try.prog 45 #[.pointer (some ⟨qb, 0, none⟩), .int .i64 key] w fun e w' => e = .returned (.int .i64 (-1)) ∧ w' = w) := Lib.hid h45
          rw [hr]
          clear h hq hr hf h53 h45 hF
          go_enter Try.func44, Try.ntmps44
          go_wp2_with fail
          refine H53.out.mono ?_
          rintro e w1 ⟨rfl, rfl⟩
          go_wp2_with fail
          refine H45.out.mono ?_
          rintro e w1 ⟨rfl, rfl⟩
          go_wp2_with fail
          go_ret
          exact ⟨rfl, ra_setAll H.out HF.out _ _ _, only_f (only_f (only_f (only_refl _ _ _) _ _) _ _) _ _⟩
        | some j =>
          rw [hF] at h45
          have H45 : Hid (Calls Try.prog 45 #[.pointer (some ⟨qb, 0, none⟩), .int .i64 key] w fun e w' => e = .returned (.int .i64 (j : Int)) ∧ w' = w) := Lib.hid h45
          by_cases hj : j = k
          · obtain rfl : k = j := hj.symm
            have hr := put_ok (i := k) hf hk0 (by omega) (.inr hF)
            have e3 : ((k : Int) != (k : Int)) = false := by simp
            rw [hr]
            clear h hq hr hf h53 h45 hF hj
            go_enter Try.func44, Try.ntmps44
            go_wp2_with fail
            refine H53.out.mono ?_
            rintro e w1 ⟨rfl, rfl⟩
            go_wp2_with fail
            refine H45.out.mono ?_
            rintro e w1 ⟨rfl, rfl⟩
            go_wp2_with fail
            go_ret
            exact ⟨rfl, ra_setAll H.out HF.out _ _ _, only_f (only_f (only_f (only_refl _ _ _) _ _) _ _) _ _⟩
          · have hr := put_other (i := k) hf hF hj
            have e3 : ((j : Int) != (k : Int)) = true := by simp; omega
            have e4 : decide ((j : Int) ≥ 0) = true := decide_eq_true (by omega)
            rw [hr]
            clear h hq hr hf h53 h45 hF hj
            go_enter Try.func44, Try.ntmps44
            go_wp2_with fail
            refine H53.out.mono ?_
            rintro e w1 ⟨rfl, rfl⟩
            go_wp2_with fail
            refine H45.out.mono ?_
            rintro e w1 ⟨rfl, rfl⟩
            go_wp2_with fail
            go_ret
            exact ⟨rfl, H.out, only_refl _ _ _⟩

set_option maxRecDepth 100000 in
set_option maxHeartbeats 4000000 in
theorem victim43 (qb gb cap : Nat) (fr : List Fr) (hand m : Nat) (w : World) (h : RA w qb gb cap fr hand) (I : RInv fr m) (hh : hand < fr.length) :
    Calls Try.prog 43 #[.pointer (some ⟨qb, 0, none⟩)] w fun e w' => e = .returned (.int .i64 (orM (victimR fr hand).1)) ∧ RA w' qb gb cap (victimR fr hand).2.1 (victimR fr hand).2.2 ∧ Only qb gb w w' := by
  have H := Lib.hid h
  obtain ⟨x0, _, _⟩ := ra_slice h
  have hl := h.2.2
  clear h
  go_enter Try.func43, Try.ntmps43
  go_wp2_with fail
  go_loopg [3] fr.length (fun gk s3 wr => ∃ k : Nat, k ≤ fr.length ∧ gk = fr.length - k ∧ s3 = .int .i64 k ∧ (∀ (i : Nat) (g : Fr), i < k → fr[i]? = some g → ¬ g.key = -1) ∧ wr = w)
  case atStart => exact ⟨0, Nat.zero_le _, rfl, rfl, fun i g hi => absurd hi (by omega), rfl⟩
  case round =>
    obtain ⟨k, hkl, hgk, rfl, hpre, rfl⟩ := hrel
    have HP := Lib.hid hpre
    clear hpre
    by_cases hlt : k < fr.length
    · obtain ⟨f, hf⟩ : ∃ f, fr[k]? = some f := ⟨_, List.getElem?_eq_getElem hlt⟩
      obtain ⟨c0, c1, c2, _, _, _⟩ := ra_cells H.out hf
      have hkey := I.keys k f hf
      have HF := Lib.hid hf
      have q0 : (0 : Int) ≤ (k : Int) := Int.natCast_nonneg _
      have q1 : (k : Int) < (fr.length : Int) := by omega
      clear hf
      by_cases he : f.key = -1
      · have e2 : decide (f.key < 0) = true := by rw [he]; rfl
        have hs : victimR fr hand = (some k, fr, hand) := by simp only [victimR, findF_some HF.out he HP.out]
        have HS := Lib.hid hs
        clear he hs hkey
        go_wp2_with fail
        go_ret
        rw [HS.out]
        exact ⟨rfl, H.out, only_refl _ _ _⟩
      · have e2 : decide (f.key < 0) = false := decide_eq_false (by omega)
        have HE := Lib.hid he
        clear he hkey
        go_wp2_with fail
        go_roundg (fr.length - (k + 1))
        case measure => omega
        case rel =>
          refine ⟨k + 1, by omega, rfl, by go_num, fun i g hi hg => ?_, rfl⟩
          by_cases hik : i < k
          · exact HP.out i g hik hg
          · obtain rfl : i = k := by omega
            rw [HF.out] at hg
            injection hg with hg
            subst hg
            exact HE.out
    · have hkn : k = fr.length := by omega
      have hn : findF fr (-1) = none := findF_none fun i g hg => HP.out i g (by have := (List.getElem?_eq_some_iff.1 hg).1; omega) hg
      have hr : victimR fr hand = spin (2 * fr.length) fr hand := by simp only [victimR, hn]
      have HR := Lib.hid hr
      clear hr hn hkn HP
      go_wp2_with fail
      go_loopg [4] (2 * fr.length) (fun gk s4 wq => ∃ (k : Nat) (fr' : List Fr) (hd : Nat), k ≤ 2 * fr.length ∧ gk = 2 * fr.length - k ∧ s4 = .int .i64 k ∧ RA wq qb gb cap fr' hd ∧ fr'.length = fr.length ∧ hd < fr.length ∧ spin (2 * fr.length) fr hand = spin (2 * fr.length - k) fr' hd ∧ Only qb gb wr wq)
      case atStart => exact ⟨0, fr, hand, Nat.zero_le _, rfl, rfl, H.out, rfl, hh, rfl, only_refl _ _ _⟩
      case round =>
        clear x0
        obtain ⟨k2, fr', hd, hk, hgk, rfl, HC, hlen, hhd, hsp, HO⟩ := hrel
        have HL := Lib.hid hlen
        have HS := Lib.hid hsp
        obtain ⟨x0, x1, x2⟩ := ra_slice HC
        rw [hlen] at x0
        have ne1 : ¬ qb = gb := ra_ne HC
        have ne2 : ¬ gb = qb := fun e => ne1 e.symm
        clear hsp hlen
        by_cases hlt2 : k2 < 2 * fr.length
        · have hhd' : hd < fr'.length := by rw [HL.out]; exact hhd
          obtain ⟨f, hf⟩ : ∃ f, fr'[hd]? = some f := ⟨_, List.getElem?_eq_getElem hhd'⟩
          have HF := Lib.hid hf
          have q0 : (0 : Int) ≤ (hd : Int) := Int.natCast_nonneg _
          have q1 : (hd : Int) < (fr.length : Int) := by omega
          have hstep : 2 * fr.length - k2 = (2 * fr.length - (k2 + 1)) + 1 := by omega
          have hz := bel_draw1 (Below.refl wr.heap.size wr)
          have HCz := ra_keep HC hz
          obtain ⟨xz0, xz1, xz2⟩ := ra_slice HCz
          rw [HL.out] at xz0
          obtain ⟨c0, c1, c2, z0, z1, z2⟩ := ra_cells HCz hf
          have HOz := only_trans HO (only_of_below hz qb gb)
          have HCZ := Lib.hid HCz
          clear hf hhd' HC HO HCz
          have hw1 : IntKind.i64.wrap ((hd : Int) + 1) = (hd : Int) + 1 := i64_of _ (by omega) (by omega)
          have hw3 : ¬ fr = [] := by rintro rfl; simp at hhd
          have hw4 : ((hd : Int) + 1).tmod (fr.length : Int) = ((hd : Int) + 1) % (fr.length : Int) := Int.tmod_eq_emod_of_nonneg (by omega)
          go_upto_region 10 with fail
          go_still_tail 14, (by kernel_rfl)
          change wpList _ _ _ _ _ wr.drew
          generalize wr.drew = wz at *
          clear x0 x1 x2 hz
          have HCh := Lib.hid (ra_hand HCZ.out ((hd + 1) % fr.length) _ (modc hd fr.length))
          have HOh := only_c HOz 1 (.int .i64 (((hd : Int) + 1) % (fr.length : Int)))
          by_cases hp : 0 < f.pins
          · have hs2 : spin (2 * fr.length) fr hand = spin (2 * fr.length - (k2 + 1)) fr' ((hd + 1) % fr.length) := by
              rw [HS.out, hstep, spin, HF.out]
              simp only [if_pos hp, HL.out]
            have HS2 := Lib.hid hs2
            have e1 : decide (f.pins > 0) = true := decide_eq_true hp
            clear hs2 hstep
            go_wp2_with fail
            go_roundg (2 * fr.length - (k2 + 1))
            case measure => omega
            case rel => exact ⟨k2 + 1, fr', (hd + 1) % fr.length, by omega, rfl, by go_num, HCh.out, HL.out, Nat.mod_lt _ (by omega), HS2.out, HOh⟩
          · have e1 : decide (f.pins > 0) = false := decide_eq_false hp
            cases hm : f.mark with
            | true =>
              have hs2 : spin (2 * fr.length) fr hand = spin (2 * fr.length - (k2 + 1)) (fr'.set hd { f with mark := false }) ((hd + 1) % fr.length) := by
                rw [HS.out, hstep, spin, HF.out]
                simp only [if_neg hp, hm, if_true, HL.out]
              have HS2 := Lib.hid hs2
              rw [hm] at c2
              clear hs2 hstep hm
              go_wp2_with fail
              go_roundg (2 * fr.length - (k2 + 1))
              case measure => omega
              case rel => exact ⟨k2 + 1, fr'.set hd { f with mark := false }, (hd + 1) % fr.length, by omega, rfl, by go_num, ra_setMark HCh.out HF.out _, by rw [List.length_set]; exact HL.out, Nat.mod_lt _ (by omega), HS2.out, only_f HOh _ _⟩
            | false =>
              have hs2 : spin (2 * fr.length) fr hand = (some hd, fr', (hd + 1) % fr.length) := by
                rw [HS.out, hstep, spin, HF.out]
                simp [if_neg hp, hm, HL.out]
              have HS2 := Lib.hid (HR.out.trans hs2)
              rw [hm] at c2
              clear hs2 hstep hm
              go_wp2_with fail
              go_ret
              rw [HS2.out]
              exact ⟨rfl, HCh.out, HOh⟩
        · have hz : 2 * fr.length - k2 = 0 := by omega
          have hs2 : spin (2 * fr.length) fr hand = (none, fr', hd) := by
            rw [HS.out, hz, spin]
          have HS2 := Lib.hid (HR.out.trans hs2)
          have HCC := Lib.hid HC
          clear hs2 hz HC
          go_wp2_with fail
          go_ret
          rw [HS2.out]
          exact ⟨rfl, HCC.out, HO⟩
end Go.Proofs.Ytecjccjgcdnpnaa
