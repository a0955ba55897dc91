/- Plain facts on the hand over frames that all have keys: whom it finds in turn. -/
import Derived.Test.YtecjccjgcdnpnaaKp
import Derived.Test.YtecjccjgcdnpnaaUt
namespace Go.Proofs.Ytecjccjgcdnpnaa
open Go.RowKit
set_option linter.unusedSimpArgs false
set_option linter.unusedVariables false

/-- The frames as the law has put keys into the first k of them. -/
def putF (n k : Nat) : List Fr := (List.range n).map fun i => if i < k then ⟨100 + (i : Int), true, 0⟩ else ⟨-1, false, 0⟩
theorem putF_length (n k : Nat) : (putF n k).length = n := by simp [putF]
theorem putF_get (n k i : Nat) (h : i < n) : (putF n k)[i]? = some (if i < k then ⟨100 + (i : Int), true, 0⟩ else ⟨-1, false, 0⟩) := by simp [putF, h]
theorem putF_zero (n : Nat) : putF n 0 = List.replicate n ⟨-1, false, 0⟩ := by
  apply List.ext_getElem?
  intro i
  by_cases hi : i < n
  · rw [putF_get n 0 i hi]; simp [hi]
  · rw [List.getElem?_eq_none (by rw [putF_length]; omega), List.getElem?_eq_none (by simp; omega)]
theorem putF_step (n k : Nat) (h : k < n) : (putF n k).set k ⟨100 + (k : Int), true, 0⟩ = putF n (k + 1) := by
  apply List.ext_getElem?
  intro i
  rw [List.getElem?_set, putF_length]
  by_cases hi : i < n
  · rw [putF_get n k i hi, putF_get n (k + 1) i hi]
    by_cases hk : k = i
    · subst hk; simp [h]
    · rw [if_neg hk]
      by_cases h2 : i < k
      · rw [if_pos h2, if_pos (by omega)]
      · rw [if_neg h2, if_neg (by omega)]
  · rw [List.getElem?_eq_none (by rw [putF_length]; omega), List.getElem?_eq_none (by rw [putF_length]; omega), if_neg (by omega)]
theorem putF_find (n k : Nat) (h : k < n) : findF (putF n k) (-1) = some k := by
  have hk := putF_get n k k h
  rw [if_neg (Nat.lt_irrefl _)] at hk
  refine findF_some hk rfl fun i g hi hg => ?_
  rw [putF_get n k i (by omega), if_pos hi] at hg
  injection hg with hg
  subst hg
  show ¬ (100 + (i : Int)) = -1
  omega
theorem putF_victim (n k : Nat) (h : k < n) : victimR (putF n k) 0 = (some k, putF n k, 0) := by simp only [victimR, putF_find n k h]
theorem putF_put (n k : Nat) (h : k < n) : putR (putF n k) (k : Int) (100 + (k : Int)) = (true, putF n (k + 1)) := by
  have hk := putF_get n k k h
  rw [if_neg (Nat.lt_irrefl _)] at hk
  rw [put_ok hk (by omega) rfl (.inl (findF_none fun i g hg => ?_)), putF_step n k h]
  have hi : i < n := by have := (List.getElem?_eq_some_iff.1 hg).1; rw [putF_length] at this; exact this
  rw [putF_get n k i hi] at hg
  injection hg with hg
  subst hg
  split
  · show ¬ (100 + (i : Int)) = _
    omega
  · show ¬ (-1 : Int) = _
    omega

/-- Frames that all have keys: which are pinned, which have marks. -/
def frM (P : Nat → Bool) (n : Nat) (m : Nat → Bool) : List Fr := (List.range n).map fun k : Nat => ⟨100 + (k : Int), m k, if P k = true then 1 else 0⟩

section
variable {P m m' : Nat → Bool} {n : Nat}
theorem frM_length : (frM P n m).length = n := by simp [frM]
theorem frM_get {i : Nat} (h : i < n) : (frM P n m)[i]? = some ⟨100 + (i : Int), m i, if P i = true then 1 else 0⟩ := by simp [frM, h]
theorem frM_congr {P' : Nat → Bool} (hp : ∀ k, k < n → P k = P' k) (h : ∀ k, k < n → m k = m' k) : frM P n m = frM P' n m' := by
  apply List.ext_getElem?
  intro i
  by_cases hi : i < n
  · rw [frM_get hi, frM_get hi, h i hi, hp i hi]
  · rw [List.getElem?_eq_none (by rw [frM_length]; omega), List.getElem?_eq_none (by rw [frM_length]; omega)]
theorem frM_mark {k : Nat} (h : k < n) (b : Bool) : (frM P n m).set k ⟨100 + (k : Int), b, if P k = true then 1 else 0⟩ = frM P n (fun x => if x = k then b else m x) := by
  apply List.ext_getElem?
  intro i
  rw [List.getElem?_set, frM_length]
  by_cases hi : i < n
  · rw [frM_get hi, frM_get hi]
    by_cases hk : k = i
    · subst hk; simp [h]
    · rw [if_neg hk, if_neg (fun q : i = k => hk q.symm)]
  · rw [List.getElem?_eq_none (by rw [frM_length]; omega), List.getElem?_eq_none (by rw [frM_length]; omega), if_neg (by omega)]
theorem frM_all : frM (fun _ => false) n (fun _ => true) = putF n n := by
  apply List.ext_getElem?
  intro i
  by_cases hi : i < n
  · rw [frM_get hi, putF_get n n i hi, if_pos hi]; simp
  · rw [List.getElem?_eq_none (by rw [frM_length]; omega), List.getElem?_eq_none (by rw [putF_length]; omega)]
theorem frM_find : findF (frM P n m) (-1) = none := findF_none fun i g hg => by
  have hi : i < n := by have := (List.getElem?_eq_some_iff.1 hg).1; rw [frM_length] at this; exact this
  rw [frM_get hi] at hg
  injection hg with hg
  subst hg
  show ¬ (100 + (i : Int)) = -1
  omega

theorem spin_pin {h r : Nat} (hh : h < n) (hp : P h = true) : spin (r + 1) (frM P n m) h = spin r (frM P n m) ((h + 1) % n) := by
  rw [spin, frM_get hh]
  simp only [hp, if_true, frM_length]
  rw [if_pos (by decide)]
theorem spin_mark {h r : Nat} (hh : h < n) (hp : P h = false) (hm : m h = true) : spin (r + 1) (frM P n m) h = spin r (frM P n (fun x => if x = h then false else m x)) ((h + 1) % n) := by
  rw [spin, frM_get hh]
  have hs := frM_mark (P := P) (m := m) hh false
  rw [hp, if_neg (by decide)] at hs
  simp [hp, hm, frM_length, hs]
theorem spin_hit {h r : Nat} (hh : h < n) (hp : P h = false) (hm : m h = false) : spin (r + 1) (frM P n m) h = (some h, frM P n m, (h + 1) % n) := by
  rw [spin, frM_get hh]
  simp [hp, hm, frM_length]

/-- One turn over marks: the loose frames lose theirs. -/
theorem spin_turn : ∀ (k r : Nat), k ≤ n → 0 < n → spin (k + r) (frM P n (fun _ => true)) 0 = spin r (frM P n (fun x => if x < k then P x else true)) (k % n)
  | 0, r => fun _ hn => by
    rw [Nat.zero_add, Nat.zero_mod]
    congr 1
  | k + 1, r => fun hk hn => by
    rw [show k + 1 + r = k + (r + 1) by omega, spin_turn k (r + 1) (by omega) hn, Nat.mod_eq_of_lt (show k < n by omega)]
    cases hp : P k with
    | true =>
      rw [spin_pin (by omega) hp]
      congr 1
      refine frM_congr (fun _ _ => rfl) fun x hx => ?_
      by_cases h1 : x < k
      · rw [if_pos h1, if_pos (by omega)]
      · by_cases h2 : x = k
        · subst h2; rw [if_neg h1, if_pos (by omega), hp]
        · rw [if_neg h1, if_neg (by omega)]
    | false =>
      rw [spin_mark (by omega) hp (by rw [if_neg (Nat.lt_irrefl _)])]
      congr 1
      refine frM_congr (fun _ _ => rfl) fun x hx => ?_
      by_cases h1 : x < k
      · rw [if_neg (by omega), if_pos h1, if_pos (by omega)]
      · by_cases h2 : x = k
        · subst h2; rw [if_pos rfl, if_pos (by omega), hp]
        · rw [if_neg h2, if_neg h1, if_neg (by omega)]

theorem spin_skip : ∀ (d r h : Nat), (∀ x, h ≤ x → x < h + d → P x = true) → h + d < n → spin (d + r) (frM P n m) h = spin r (frM P n m) (h + d)
  | 0, r, h => fun _ _ => by rw [Nat.zero_add, Nat.add_zero]
  | d + 1, r, h => fun hx hn => by
    rw [show d + 1 + r = (d + r) + 1 by omega, spin_pin (by omega) (hx h (Nat.le_refl _) (by omega)), Nat.mod_eq_of_lt (show h + 1 < n by omega), spin_skip d r (h + 1) (fun x h1 h2 => hx x (by omega) (by omega)) (by omega)]
    congr 1; omega
theorem spin_to {h v f : Nat} (hv : h ≤ v) (hn : v < n) (hx : ∀ x, h ≤ x → x < v → P x = true) (hp : P v = false) (hm : m v = false) (hf : v - h < f) : spin f (frM P n m) h = (some v, frM P n m, (v + 1) % n) := by
  obtain ⟨r, rfl⟩ : ∃ r, f = (v - h) + (r + 1) := ⟨f - (v - h) - 1, by omega⟩
  rw [spin_skip (v - h) (r + 1) h (fun x h1 h2 => hx x h1 (by omega)) (by omega), show h + (v - h) = v by omega, spin_hit hn hp hm]
theorem spin_round : ∀ (d r h : Nat), h + d = n → (∀ x, h ≤ x → x < n → P x = true) → spin (d + r) (frM P n m) (h % n) = spin r (frM P n m) 0
  | 0, r, h => fun hd _ => by
    rw [Nat.add_zero] at hd
    rw [hd, Nat.mod_self, Nat.zero_add]
  | d + 1, r, h => fun hd hx => by
    rw [Nat.mod_eq_of_lt (show h < n by omega), show d + 1 + r = (d + r) + 1 by omega, spin_pin (by omega) (hx h (Nat.le_refl _) (by omega))]
    exact spin_round d r (h + 1) (by omega) (fun x h1 h2 => hx x (by omega) h2)

theorem victim_first {l0 : Nat} (h0 : l0 < n) (hx : ∀ x, x < l0 → P x = true) (hp : P l0 = false) : victimR (frM P n (fun _ => true)) 0 = (some l0, frM P n P, (l0 + 1) % n) := by
  have hf : frM P n (fun x => if x < n then P x else true) = frM P n P := frM_congr (fun _ _ => rfl) fun x hx => if_pos hx
  simp only [victimR, frM_find, frM_length]
  rw [show 2 * n = n + n by omega, spin_turn n n (Nat.le_refl _) (by omega), Nat.mod_self, hf]
  exact spin_to (Nat.zero_le _) h0 (fun x _ h => hx x h) hp hp (by omega)
theorem victim_next {l0 l1 : Nat} (h01 : l0 < l1) (h1 : l1 < n) (hx : ∀ x, l0 < x → x < l1 → P x = true) (hp : P l1 = false) (hm : m l1 = false) : victimR (frM P n m) ((l0 + 1) % n) = (some l1, frM P n m, (l1 + 1) % n) := by
  simp only [victimR, frM_find, frM_length]
  rw [Nat.mod_eq_of_lt (show l0 + 1 < n by omega)]
  exact spin_to (by omega) h1 (fun x h h' => hx x (by omega) h') hp hm (by omega)
/-- The second one has got its mark back: it is passed over. -/
theorem spin_past {l0 l1 : Nat} (h01 : l0 < l1) (h1 : l1 < n) (hx : ∀ x, l0 < x → x < l1 → P x = true) (hp : P l1 = false) : spin (2 * n) (frM P n (fun x => if x = l1 then true else P x)) ((l0 + 1) % n) = spin (2 * n - (l1 - l0)) (frM P n P) ((l1 + 1) % n) := by
  rw [Nat.mod_eq_of_lt (show l0 + 1 < n by omega), show 2 * n = (l1 - (l0 + 1)) + ((2 * n - (l1 - l0)) + 1) by omega, spin_skip (l1 - (l0 + 1)) _ (l0 + 1) (fun x h h' => hx x (by omega) (by omega)) (by omega), show l0 + 1 + (l1 - (l0 + 1)) = l1 by omega, spin_mark h1 hp (if_pos rfl)]
  have e1 : frM P n (fun x => if x = l1 then false else if x = l1 then true else P x) = frM P n P := by
    refine frM_congr (fun _ _ => rfl) fun x hx => ?_
    by_cases h : x = l1
    · subst h; rw [if_pos rfl, hp]
    · rw [if_neg h, if_neg h]
  have e2 : l1 - (l0 + 1) + (2 * n - (l1 - l0) + 1) - (l1 - l0) = 2 * n - (l1 - l0) := by omega
  rw [e1, e2]
theorem victim_third {l0 l1 l2 : Nat} (h01 : l0 < l1) (h12 : l1 < l2) (h2 : l2 < n) (hx : ∀ x, l0 < x → x < l1 → P x = true) (hx2 : ∀ x, l1 < x → x < l2 → P x = true) (hp : P l1 = false) (hp2 : P l2 = false) :
    victimR (frM P n (fun x => if x = l1 then true else P x)) ((l0 + 1) % n) = (some l2, frM P n P, (l2 + 1) % n) := by
  simp only [victimR, frM_find, frM_length]
  rw [spin_past h01 (by omega) hx hp, Nat.mod_eq_of_lt (show l1 + 1 < n by omega)]
  exact spin_to (by omega) h2 (fun x h h' => hx2 x (by omega) h') hp2 hp2 (by omega)
theorem victim_back {l0 l1 : Nat} (h01 : l0 < l1) (h1 : l1 < n) (hx0 : ∀ x, x < l0 → P x = true) (hx : ∀ x, l0 < x → x < l1 → P x = true) (hx2 : ∀ x, l1 < x → x < n → P x = true) (hp0 : P l0 = false) (hp : P l1 = false) :
    victimR (frM P n (fun x => if x = l1 then true else P x)) ((l0 + 1) % n) = (some l0, frM P n P, (l0 + 1) % n) := by
  simp only [victimR, frM_find, frM_length]
  rw [spin_past h01 (by omega) hx hp, show 2 * n - (l1 - l0) = (n - (l1 + 1)) + (2 * n - (l1 - l0) - (n - (l1 + 1))) by omega, spin_round (n - (l1 + 1)) _ (l1 + 1) (by omega) (fun x h h' => hx2 x (by omega) h')]
  exact spin_to (Nat.zero_le _) (by omega) (fun x _ h => hx0 x h) hp0 hp0 (by omega)
theorem touch_frM {t : Nat} (h : t < n) : touchR (frM P n m) (t : Int) = (true, frM P n (fun x => if x = t then true else m x)) := by
  have hs := frM_mark (P := P) (m := m) h true
  simp only [touchR, frAt_in (frM_get h), Int.toNat_natCast]
  rw [if_pos (by show ¬ (100 + (t : Int)) = -1; omega), hs]
end

/-- How the law pins: the first k that are to be. -/
def pinP (P : Nat → Bool) (k : Nat) : Nat → Bool := fun x => decide (x < k) && P x
theorem pinP_zero (P : Nat → Bool) (n : Nat) : frM (pinP P 0) n (fun _ => true) = putF n n := by
  rw [← frM_all]
  exact frM_congr (fun k _ => by simp [pinP]) fun _ _ => rfl
theorem pinP_all (P : Nat → Bool) (n : Nat) (m : Nat → Bool) : frM (pinP P n) n m = frM P n m := frM_congr (fun k h => by simp [pinP, h]) fun _ _ => rfl
theorem pinP_no {P : Nat → Bool} {k : Nat} (n : Nat) (m : Nat → Bool) (hp : P k = false) : frM (pinP P k) n m = frM (pinP P (k + 1)) n m := by
  refine frM_congr (fun x _ => ?_) fun _ _ => rfl
  by_cases h : x = k
  · subst h; simp [pinP, hp]
  · simp only [pinP]
    congr 1
    exact decide_eq_decide.2 (by omega)
theorem pinP_yes {P : Nat → Bool} {k n : Nat} (m : Nat → Bool) (h : k < n) (hp : P k = true) : pinR (frM (pinP P k) n m) (k : Int) = (true, frM (pinP P (k + 1)) n m) := by
  have hg := frM_get (P := pinP P k) (m := m) h
  have h0 : pinP P k k = false := by simp [pinP]
  rw [h0, if_neg (by decide)] at hg
  rw [pin_ok hg (by show ¬ (100 + (k : Int)) = -1; omega)]
  congr 1
  apply List.ext_getElem?
  intro i
  rw [List.getElem?_set, frM_length]
  by_cases hi : i < n
  · rw [frM_get hi, frM_get hi]
    by_cases hk : k = i
    · subst hk; simp [h, pinP, hp]
    · rw [if_neg hk]
      have : pinP P k i = pinP P (k + 1) i := by
        simp only [pinP]
        congr 1
        exact decide_eq_decide.2 (by omega)
      rw [this]
  · rw [List.getElem?_eq_none (by rw [frM_length]; omega), List.getElem?_eq_none (by rw [frM_length]; omega), if_neg (by omega)]
theorem frM_bd (P : Nat → Bool) (n : Nat) (m : Nat → Bool) : ∀ f ∈ frM P n m, 0 ≤ f.pins ∧ f.pins ≤ 1000000 := by
  intro f hf
  simp only [frM, List.mem_map] at hf
  obtain ⟨k, _, rfl⟩ := hf
  show 0 ≤ (if P k = true then (1 : Int) else 0) ∧ (if P k = true then (1 : Int) else 0) ≤ 1000000
  split <;> omega

/-- The loose ones among the first k. -/
def looseN (P : Nat → Bool) (k : Nat) : List Nat := (List.range k).filter fun x => !P x
theorem looseN_yes {P : Nat → Bool} {k : Nat} (h : P k = false) : looseN P (k + 1) = looseN P k ++ [k] := by
  simp [looseN, List.range_succ, List.filter_append, h]
theorem looseN_no {P : Nat → Bool} {k : Nat} (h : P k = true) : looseN P (k + 1) = looseN P k := by
  simp [looseN, List.range_succ, List.filter_append, h]
theorem looseN_len (P : Nat → Bool) (k : Nat) : (looseN P k).length ≤ k := by
  have := List.length_filter_le (fun x => !P x) (List.range k)
  simpa [looseN] using this
def Gd (P : Nat → Bool) : Nat → List Nat → Nat → Prop
  | a, [], n => ∀ x, a ≤ x → x < n → P x = true
  | a, b :: l, n => a ≤ b ∧ b < n ∧ P b = false ∧ (∀ x, a ≤ x → x < b → P x = true) ∧ Gd P (b + 1) l n
theorem gd_no {P : Nat → Bool} {n : Nat} (hp : P n = true) : ∀ (l : List Nat) (a : Nat), Gd P a l n → Gd P a l (n + 1)
  | [], a => fun h x h1 h2 => by
    by_cases e : x = n
    · subst e; exact hp
    · exact h x h1 (by omega)
  | b :: l, a => fun ⟨h1, h2, h3, h4, h5⟩ => ⟨h1, by omega, h3, h4, gd_no hp l (b + 1) h5⟩
theorem gd_yes {P : Nat → Bool} {n : Nat} (hp : P n = false) : ∀ (l : List Nat) (a : Nat), a ≤ n → Gd P a l n → Gd P a (l ++ [n]) (n + 1)
  | [], a => fun ha h => ⟨ha, Nat.lt_succ_self _, hp, h, fun x h1 h2 => absurd h1 (by omega)⟩
  | b :: l, a => fun ha ⟨h1, h2, h3, h4, h5⟩ => ⟨h1, by omega, h3, h4, gd_yes hp l (b + 1) h2 h5⟩
theorem gd_loose (P : Nat → Bool) : ∀ k, Gd P 0 (looseN P k) k
  | 0 => fun x _ h => absurd h (by omega)
  | k + 1 => by
    cases hp : P k with
    | true => rw [looseN_no hp]; exact gd_no hp _ _ (gd_loose P k)
    | false => rw [looseN_yes hp]; exact gd_yes hp _ _ (Nat.zero_le _) (gd_loose P k)
theorem gd_mem {P : Nat → Bool} {n : Nat} : ∀ (l : List Nat) (a t : Nat), Gd P a l n → t ∈ l → a ≤ t ∧ t < n
  | [], a, t => fun _ h => by cases h
  | b :: l, a, t => fun ⟨h1, h2, _, _, h5⟩ h => by
    rcases List.mem_cons.1 h with rfl | h
    · exact ⟨h1, h2⟩
    · have := gd_mem l (b + 1) t h5 h
      omega

/-- What the law asks for: the list's first three and the one that is touched. -/
theorem turns_fact {P : Nat → Bool} {n q : Nat} (hq : 1 ≤ q) (hql : q < (looseN P n).length) :
    ∃ l0 l1 t, (looseN P n)[0]? = some l0 ∧ (looseN P n)[1]? = some l1 ∧ (looseN P n)[q]? = some t ∧ t < n ∧ l0 < n ∧
      victimR (frM P n (fun _ => true)) 0 = (some l0, frM P n P, (l0 + 1) % n) ∧
      (t ≠ l1 → ∃ fr h, victimR (frM P n (fun x => if x = t then true else P x)) ((l0 + 1) % n) = (some l1, fr, h)) ∧
      (t = l1 → (looseN P n).length = 2 → ∃ fr h, victimR (frM P n (fun x => if x = t then true else P x)) ((l0 + 1) % n) = (some l0, fr, h)) ∧
      (t = l1 → 2 < (looseN P n).length → ∃ l2 fr h, (looseN P n)[2]? = some l2 ∧ victimR (frM P n (fun x => if x = t then true else P x)) ((l0 + 1) % n) = (some l2, fr, h)) := by
  have hg := gd_loose P n
  obtain ⟨t, ht⟩ : ∃ t, (looseN P n)[q]? = some t := ⟨_, List.getElem?_eq_getElem hql⟩
  have htm := gd_mem _ _ t hg (List.mem_of_getElem? ht)
  match hL : looseN P n with
  | [] => rw [hL] at hql; simp at hql
  | [l0] => rw [hL] at hql; simp at hql; omega
  | l0 :: l1 :: rest =>
    rw [hL] at hg ht hql
    obtain ⟨_, h0n, hp0, hx0, hg1⟩ := hg
    obtain ⟨h01, h1n, hp1, hx1, hg2⟩ := hg1
    refine ⟨l0, l1, t, rfl, rfl, ht, htm.2, h0n, victim_first h0n (fun x h => hx0 x (Nat.zero_le _) h) hp0, fun hne => ?_, fun he hlen => ?_, fun he hlen => ?_⟩
    · exact ⟨_, _, victim_next (by omega) h1n (fun x h h' => hx1 x (by omega) h') hp1 (by rw [if_neg (fun e => hne e.symm)]; exact hp1)⟩
    · subst he
      have hr : rest = [] := by simpa using hlen
      subst hr
      exact ⟨_, _, victim_back (by omega) h1n (fun x h => hx0 x (Nat.zero_le _) h) (fun x h h' => hx1 x (by omega) h') (fun x h h' => hg2 x (by omega) h') hp0 hp1⟩
    · subst he
      match rest, hlen, hg2 with
      | l2 :: rest', _, ⟨h12, h2n, hp2, hx2, _⟩ =>
        exact ⟨l2, _, _, rfl, victim_third (by omega) (by omega) h2n (fun x h h' => hx1 x (by omega) h') (fun x h h' => hx2 x (by omega) h') hp1 hp2⟩

def ints (l : List Nat) : List Int := l.map fun x : Nat => (x : Int)
theorem ints_length (l : List Nat) : (ints l).length = l.length := List.length_map ..
theorem ints_get {l : List Nat} {i x : Nat} (h : l[i]? = some x) : (ints l)[i]? = some (x : Int) := by simp [ints, h]
theorem ints_snoc (l : List Nat) (k : Nat) : ints (l ++ [k]) = ints l ++ [(k : Int)] := by simp [ints]

theorem own_only {w w' : World} {cb fb base : Nat} {v : Value} {n : Nat} {xs : List Value} (h : w.ownsRow base 3 1 v n xs) (o : Only cb fb w w') (h1 : cb < base) (h2 : fb < base) : w'.ownsRow base 3 1 v n xs := by
  refine ⟨h.1, ?_⟩
  rcases h.2 with h | ⟨g, cap, cur, hv, hb, hg, rest⟩
  · exact .inl h
  · exact .inr ⟨g, cap, cur, hv, hb, (o.block g (Array.getElem?_eq_some_iff.1 hg).1 (by omega) (by omega)).trans hg, rest⟩
theorem own_drop {w w' : World} {base : Nat} {v : Value} {n : Nat} {xs : List Value} (h : w.ownsRow base 3 1 v n xs) (o : Below w.heap.size w w') : w'.ownsRow base 3 1 v n xs := by
  refine ⟨h.1, ?_⟩
  rcases h.2 with h | ⟨g, cap, cur, hv, hb, hg, rest⟩
  · exact .inl h
  · exact .inr ⟨g, cap, cur, hv, hb, (o.block g (Array.getElem?_eq_some_iff.1 hg).1).trans hg, rest⟩
theorem many15 (a : Nat) : ∃ N : Nat, (2 + (a : Int) % 15) = N ∧ 2 ≤ N ∧ N ≤ 16 := ⟨2 + a % 15, by omega, by omega, by omega⟩
theorem pick (t n : Nat) (h : 2 ≤ n) : ∃ q : Nat, 1 + (t : Int) % ((n : Int) - 1) = q ∧ 1 ≤ q ∧ q < n := by
  have h1 : 0 ≤ (t : Int) % ((n : Int) - 1) := Int.emod_nonneg _ (by omega)
  have h2 : (t : Int) % ((n : Int) - 1) < (n : Int) - 1 := Int.emod_lt_of_pos _ (by omega)
  exact ⟨(1 + (t : Int) % ((n : Int) - 1)).toNat, by omega, by omega, by omega⟩
end Go.Proofs.Ytecjccjgcdnpnaa
