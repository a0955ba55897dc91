/- Plain facts on the hand: whom it finds. -/
import Derived.Test.YtecjccjgcdnpnaaKl
namespace Go.Proofs.Ytecjccjgcdnpnaa
open Go.RowKit
set_option linter.unusedSimpArgs false
set_option linter.unusedVariables false

def pinsOf (fr : List Fr) : List Int := fr.map Fr.pins
theorem pinsOf_length (fr : List Fr) : (pinsOf fr).length = fr.length := List.length_map ..
theorem pinsOf_get {fr : List Fr} {k : Nat} {f : Fr} (h : fr[k]? = some f) : (pinsOf fr)[k]? = some f.pins := by simp [pinsOf, h]
theorem pinsOf_set (fr : List Fr) (k : Nat) (f : Fr) : pinsOf (fr.set k f) = (pinsOf fr).set k f.pins := by simp [pinsOf, List.map_set]
theorem set_same {α : Type} {l : List α} {k : Nat} {a : α} (h : l[k]? = some a) : l.set k a = l := by
  apply List.ext_getElem?
  intro i
  rw [List.getElem?_set]
  by_cases e : k = i
  · subst e; rw [if_pos rfl, if_pos (List.getElem?_eq_some_iff.1 h).1, h]
  · rw [if_neg e]
theorem pinsOf_mark {fr : List Fr} {k : Nat} {f : Fr} (h : fr[k]? = some f) (b : Bool) : pinsOf (fr.set k { f with mark := b }) = pinsOf fr := by
  rw [pinsOf_set]; exact set_same (by simpa using pinsOf_get h)
theorem keysOf_mark {fr : List Fr} {k : Nat} {f : Fr} (h : fr[k]? = some f) (b : Bool) : keysOf (fr.set k { f with mark := b }) = keysOf fr := by
  rw [keysOf_set]; exact set_same (by simpa using keysOf_get h)

theorem spin_keep : ∀ (m : Nat) (fr : List Fr) (h : Nat), keysOf (spin m fr h).2.1 = keysOf fr ∧ pinsOf (spin m fr h).2.1 = pinsOf fr ∧ (h < fr.length → (spin m fr h).2.2 < fr.length)
  | 0, fr, h => ⟨rfl, rfl, fun q => q⟩
  | m + 1, fr, h => by
    unfold spin
    cases hf : fr[h]? with
    | none => exact ⟨rfl, rfl, fun q => q⟩
    | some f =>
      have hl : h < fr.length := (List.getElem?_eq_some_iff.1 hf).1
      have hm : (h + 1) % fr.length < fr.length := Nat.mod_lt _ (by omega)
      dsimp only
      split
      · obtain ⟨a, b, c⟩ := spin_keep m fr ((h + 1) % fr.length)
        exact ⟨a, b, fun _ => c hm⟩
      · split
        · obtain ⟨a, b, c⟩ := spin_keep m (fr.set h { f with mark := false }) ((h + 1) % fr.length)
          rw [List.length_set] at c
          exact ⟨a.trans (keysOf_mark hf _), b.trans (pinsOf_mark hf _), fun _ => c hm⟩
        · exact ⟨rfl, rfl, fun _ => hm⟩

theorem spin_some : ∀ (m : Nat) (fr : List Fr) (h v : Nat), (spin m fr h).1 = some v → ∃ p, (pinsOf fr)[v]? = some p ∧ ¬ 0 < p
  | 0, fr, h, v => fun e => by simp [spin] at e
  | m + 1, fr, h, v => by
    unfold spin
    cases hf : fr[h]? with
    | none => intro e; simp at e
    | some f =>
      dsimp only
      split
      · exact spin_some m fr _ v
      · split
        · intro e
          have := spin_some m (fr.set h { f with mark := false }) _ v e
          rwa [pinsOf_mark hf] at this
        · rename_i hp _
          intro e
          injection e with e
          subst e
          exact ⟨f.pins, pinsOf_get hf, hp⟩

theorem spin_none : ∀ (m : Nat) (fr : List Fr) (h : Nat), (∀ (i : Nat) (f : Fr), fr[i]? = some f → 0 < f.pins) → (spin m fr h).1 = none
  | 0, fr, h => fun _ => rfl
  | m + 1, fr, h => fun ha => by
    unfold spin
    cases hf : fr[h]? with
    | none => rfl
    | some f =>
      dsimp only
      rw [if_pos (ha h f hf)]
      exact spin_none m fr _ ha

/-- The hand comes to a frame that is loose and has no mark. -/
theorem spin_loose : ∀ (d m : Nat) (fr : List Fr) (h u : Nat) (f : Fr), h < fr.length → fr[u]? = some f → ¬ 0 < f.pins → f.mark = false → (h + d) % fr.length = u → d < fr.length → d < m → (spin m fr h).1.isSome
  | d, 0, fr, h, u, f => fun _ _ _ _ _ _ q => absurd q (by omega)
  | d, m + 1, fr, h, u, f => fun hh hu hp hk hd hdl hm => by
    unfold spin
    obtain ⟨g, hg⟩ : ∃ g, fr[h]? = some g := ⟨_, List.getElem?_eq_getElem hh⟩
    rw [hg]
    dsimp only
    match d with
    | 0 =>
      rw [Nat.add_zero, Nat.mod_eq_of_lt hh] at hd
      subst hd
      rw [hg] at hu
      injection hu with hu
      subst hu
      rw [if_neg hp, hk]
      simp
    | d + 1 =>
      have hne : h ≠ u := by
        intro e
        subst e
        have : (h + (d + 1)) % fr.length = h := hd
        by_cases hb : h + (d + 1) < fr.length
        · rw [Nat.mod_eq_of_lt hb] at this; omega
        · rw [Nat.mod_eq_sub_mod (by omega), Nat.mod_eq_of_lt (by omega)] at this; omega
      have hn : (h + 1) % fr.length < fr.length := Nat.mod_lt _ (by omega)
      have hd' : ((h + 1) % fr.length + d) % fr.length = u := by rw [Nat.mod_add_mod, ← hd]; congr 1; omega
      split
      · exact spin_loose d m fr _ u f hn hu hp hk hd' (by omega) (by omega)
      · split
        · refine spin_loose d m (fr.set h { g with mark := false }) _ u f (by rw [List.length_set]; exact hn) ?_ hp hk (by rw [List.length_set]; exact hd') (by rw [List.length_set]; omega) (by omega)
          rw [List.getElem?_set, if_neg hne, hu]
        · simp

/-- The hand finds a loose frame in two turns. -/
theorem spin_finds : ∀ (d m : Nat) (fr : List Fr) (h u : Nat) (f : Fr), h < fr.length → fr[u]? = some f → ¬ 0 < f.pins → (h + d) % fr.length = u → d < fr.length → d + fr.length < m → (spin m fr h).1.isSome
  | d, 0, fr, h, u, f => fun hh _ _ _ _ q => absurd q (by omega)
  | d, m + 1, fr, h, u, f => fun hh hu hp hd hdl hm => by
    cases hk : f.mark with
    | false => exact spin_loose d (m + 1) fr h u f hh hu hp hk hd hdl (by omega)
    | true =>
      have hu0 := hu
      unfold spin
      obtain ⟨g, hg⟩ : ∃ g, fr[h]? = some g := ⟨_, List.getElem?_eq_getElem hh⟩
      rw [hg]
      dsimp only
      have hn : (h + 1) % fr.length < fr.length := Nat.mod_lt _ (by omega)
      match d with
      | 0 =>
        rw [Nat.add_zero, Nat.mod_eq_of_lt hh] at hd
        subst hd
        rw [hg] at hu
        injection hu with hu
        subst hu
        rw [if_neg hp, if_pos hk]
        have hm1 : fr.length - 1 < m := by omega
        have hm2 : fr.length - 1 < fr.length := by omega
        refine spin_loose (fr.length - 1) m (fr.set h { g with mark := false }) _ h { g with mark := false } (by rw [List.length_set]; exact hn) (by rw [List.getElem?_set_self hh]) hp rfl ?_ (by rw [List.length_set]; exact hm2) hm1
        rw [List.length_set, Nat.mod_add_mod, show h + 1 + (fr.length - 1) = h + fr.length by omega, Nat.add_mod_right, Nat.mod_eq_of_lt hh]
      | d + 1 =>
        have hne : h ≠ u := by
          intro e
          subst e
          have : (h + (d + 1)) % fr.length = h := hd
          by_cases hb : h + (d + 1) < fr.length
          · rw [Nat.mod_eq_of_lt hb] at this; omega
          · rw [Nat.mod_eq_sub_mod (by omega), Nat.mod_eq_of_lt (by omega)] at this; omega
        have hd' : ((h + 1) % fr.length + d) % fr.length = u := by rw [Nat.mod_add_mod, ← hd]; congr 1; omega
        split
        · exact spin_finds d m fr _ u f hn hu hp hd' (by omega) (by omega)
        · split
          · refine spin_finds d m (fr.set h { g with mark := false }) _ u f (by rw [List.length_set]; exact hn) ?_ hp (by rw [List.length_set]; exact hd') (by rw [List.length_set]; omega) (by rw [List.length_set]; omega)
            rw [List.getElem?_set, if_neg hne, hu]
          · simp

theorem spin_two (fr : List Fr) (h u : Nat) (f : Fr) (hh : h < fr.length) (hu : fr[u]? = some f) (hp : ¬ 0 < f.pins) : (spin (2 * fr.length) fr h).1.isSome := by
  have hul : u < fr.length := (List.getElem?_eq_some_iff.1 hu).1
  by_cases hle : h ≤ u
  · exact spin_finds (u - h) _ fr h u f hh hu hp (by rw [show h + (u - h) = u by omega]; exact Nat.mod_eq_of_lt hul) (by omega) (by omega)
  · exact spin_finds (u + fr.length - h) _ fr h u f hh hu hp (by rw [show h + (u + fr.length - h) = u + fr.length by omega, Nat.add_mod_right]; exact Nat.mod_eq_of_lt hul) (by omega) (by omega)

/-- What a clock's frames are like, m pins at most on each. -/
structure PInv (fr : List Fr) (m : Nat) : Prop where
  bd : ∀ (i : Nat) (f : Fr), fr[i]? = some f → 0 ≤ f.pins ∧ f.pins ≤ m
  emp : ∀ (i : Nat) (f : Fr), fr[i]? = some f → f.key = -1 → f.pins = 0

theorem like_get {fr fr' : List Fr} (hk : keysOf fr' = keysOf fr) (hp : pinsOf fr' = pinsOf fr) {i : Nat} {f : Fr} (h : fr'[i]? = some f) : ∃ g, fr[i]? = some g ∧ g.key = f.key ∧ g.pins = f.pins := by
  have h1 := keysOf_get h
  have h2 := pinsOf_get h
  rw [hk] at h1
  rw [hp] at h2
  simp only [keysOf, pinsOf, List.getElem?_map, Option.map_eq_some_iff] at h1 h2
  obtain ⟨g, hg, e1⟩ := h1
  obtain ⟨g', hg', e2⟩ := h2
  rw [hg] at hg'
  injection hg' with hg'
  subst hg'
  exact ⟨g, hg, e1, e2⟩
theorem pinv_like {fr fr' : List Fr} {m : Nat} (P : PInv fr m) (hk : keysOf fr' = keysOf fr) (hp : pinsOf fr' = pinsOf fr) : PInv fr' m :=
  ⟨fun i f h => by obtain ⟨g, hg, _, e⟩ := like_get hk hp h; have := P.bd i g hg; omega, fun i f h hf => by obtain ⟨g, hg, e1, e2⟩ := like_get hk hp h; have := P.emp i g hg (by omega); omega⟩
theorem pinv_mono {fr : List Fr} {m m' : Nat} (P : PInv fr m) (h : m ≤ m') : PInv fr m' := ⟨fun i f hf => by have := P.bd i f hf; omega, P.emp⟩
theorem pinv_mem {fr : List Fr} {m : Nat} (P : PInv fr m) (h : m ≤ 1000000) : ∀ f ∈ fr, 0 ≤ f.pins ∧ f.pins ≤ 1000000 := by
  intro f hf
  obtain ⟨i, hi⟩ := List.mem_iff_getElem?.1 hf
  have := P.bd i f hi
  omega
theorem pinv_new (n m : Nat) : PInv (List.replicate n ⟨-1, false, 0⟩) m :=
  ⟨fun i f h => by rw [List.getElem?_replicate] at h; split at h <;> simp at h; rw [← h]; simp,
   fun i f h _ => by rw [List.getElem?_replicate] at h; split at h <;> simp at h; rw [← h]⟩
theorem pinv_set {fr : List Fr} {m k : Nat} {f : Fr} (P : PInv fr m) (h1 : 0 ≤ f.pins ∧ f.pins ≤ m) (h2 : f.key = -1 → f.pins = 0) : PInv (fr.set k f) m := by
  have hs : ∀ (i : Nat) (g : Fr), (fr.set k f)[i]? = some g → g = f ∨ fr[i]? = some g := by
    intro i g h
    rw [List.getElem?_set] at h
    by_cases e : k = i
    · subst e
      rw [if_pos rfl] at h
      split at h
      · injection h with h; exact .inl h.symm
      · cases h
    · rw [if_neg e] at h
      exact .inr h
  refine ⟨fun i g h => ?_, fun i g h => ?_⟩
  · rcases hs i g h with rfl | h
    · exact h1
    · exact P.bd i g h
  · rcases hs i g h with rfl | h
    · exact h2
    · exact P.emp i g h

theorem like_length {fr fr' : List Fr} (h : keysOf fr' = keysOf fr) : fr'.length = fr.length := by
  have := congrArg List.length h
  rwa [keysOf_length, keysOf_length] at this

/-- What Victim answers: a loose frame, or that all are pinned. -/
theorem victim_fact {fr : List Fr} {m hand : Nat} (P : PInv fr m) (hh : hand < fr.length) :
    ∃ o fr' hand', victimR fr hand = (o, fr', hand') ∧ keysOf fr' = keysOf fr ∧ pinsOf fr' = pinsOf fr ∧ hand' < fr.length ∧
      ((∃ v f, o = some v ∧ fr'[v]? = some f ∧ f.pins = 0) ∨ (o = none ∧ ∀ (i : Nat) (f : Fr), fr'[i]? = some f → 0 < f.pins)) := by
  unfold victimR
  cases hF : findF fr (-1) with
  | some v =>
    obtain ⟨f, hf, hk⟩ := findF_at hF
    exact ⟨some v, fr, hand, rfl, rfl, rfl, hh, .inl ⟨v, f, rfl, hf, P.emp _ _ hf hk⟩⟩
  | none =>
    dsimp only
    obtain ⟨a, b, c⟩ := spin_keep (2 * fr.length) fr hand
    refine ⟨_, _, _, rfl, a, b, c hh, ?_⟩
    by_cases hall : ∀ (i : Nat) (f : Fr), fr[i]? = some f → 0 < f.pins
    · refine .inr ⟨spin_none _ fr hand hall, fun i f h => ?_⟩
      obtain ⟨g, hg, _, e⟩ := like_get a b h
      have := hall i g hg
      omega
    · have hex : ∃ (i : Nat) (f : Fr), fr[i]? = some f ∧ ¬ 0 < f.pins := by
        apply Classical.byContradiction
        intro hn
        exact hall fun i f h => Classical.byContradiction fun hp => hn ⟨i, f, h, hp⟩
      obtain ⟨u, f, hu, hp⟩ := hex
      obtain ⟨v, hv⟩ := Option.isSome_iff_exists.1 (spin_two fr hand u f hh hu hp)
      obtain ⟨p, hp2, hp3⟩ := spin_some _ _ _ _ hv
      rw [← b] at hp2
      simp only [pinsOf, List.getElem?_map, Option.map_eq_some_iff] at hp2
      obtain ⟨g, hg, e⟩ := hp2
      obtain ⟨g', hg', _, e'⟩ := like_get a b hg
      have := P.bd _ _ hg'
      exact .inl ⟨v, g, hv, hg, by omega⟩

theorem pin_ok {fr : List Fr} {i : Nat} {f : Fr} (h : fr[i]? = some f) (hk : ¬ f.key = -1) : pinR fr (i : Int) = (true, fr.set i { f with pins := f.pins + 1 }) := by
  simp only [pinR, frAt_in h, Int.toNat_natCast]
  rw [if_pos hk]
theorem unpin_zero {fr : List Fr} {i : Nat} {f : Fr} (h : fr[i]? = some f) (hp : f.pins = 0) : unpinR fr (i : Int) = (false, fr) := by
  simp only [unpinR, frAt_in h, Int.toNat_natCast]
  rw [if_neg (fun q => q hp)]
theorem unpin_pos {fr : List Fr} {i : Nat} {f : Fr} (h : fr[i]? = some f) (hp : ¬ f.pins = 0) : unpinR fr (i : Int) = (true, fr.set i { f with pins := f.pins - 1 }) := by
  simp only [unpinR, frAt_in h, Int.toNat_natCast]
  rw [if_pos hp]
theorem pins_at {fr : List Fr} {i : Nat} {f : Fr} (h : fr[i]? = some f) : pinsR fr (i : Int) = f.pins := by
  simp only [pinsR, frAt_in h]
theorem only_cell {w w' : World} {cb fb b o : Nat} {v : Value} (h : w.cell? ⟨b, o, none⟩ = some v) (hO : Only cb fb w w') (h1 : ¬ b = cb) (h2 : ¬ b = fb) : w'.cell? ⟨b, o, none⟩ = some v := by
  have hl := World.block_lt_of_cell? w _ h
  have := hO.block b hl h1 h2
  simp only [World.cell?, this] at h ⊢
  exact h

/-- Whether the first k frames are all pinned, as the law reckons it. -/
def AllTo (fr : List Fr) (k : Nat) (t : Bool) : Prop := (t = true ∧ ∀ (i : Nat) (f : Fr), i < k → fr[i]? = some f → 0 < f.pins) ∨ (t = false ∧ ∃ (i : Nat) (f : Fr), fr[i]? = some f ∧ ¬ 0 < f.pins)
theorem allTo_zero (fr : List Fr) : AllTo fr 0 true := .inl ⟨rfl, fun i f h => absurd h (by omega)⟩
theorem allTo_miss {fr : List Fr} {k : Nat} {f : Fr} (hf : fr[k]? = some f) (hp : ¬ 0 < f.pins) (k' : Nat) : AllTo fr k' false := .inr ⟨rfl, k, f, hf, hp⟩
theorem allTo_old {fr : List Fr} {k : Nat} (h : AllTo fr k false) (k' : Nat) : AllTo fr k' false := by
  rcases h with ⟨h, _⟩ | h
  · cases h
  · exact .inr h
theorem allTo_hit {fr : List Fr} {k : Nat} {f : Fr} (h : AllTo fr k true) (hf : fr[k]? = some f) (hp : 0 < f.pins) : AllTo fr (k + 1) true := by
  rcases h with ⟨_, h⟩ | ⟨h, _⟩
  · refine .inl ⟨rfl, fun i g hi hg => ?_⟩
    by_cases hik : i < k
    · exact h i g hik hg
    · obtain rfl : i = k := by omega
      rw [hf] at hg
      injection hg with hg
      subst hg
      exact hp
  · cases h
theorem allTo_loose {fr : List Fr} {t : Bool} {v : Nat} {f : Fr} (h : AllTo fr fr.length t) (hf : fr[v]? = some f) (hp : f.pins = 0) : t = false := by
  rcases h with ⟨_, h⟩ | ⟨h, _⟩
  · have := h v f (List.getElem?_eq_some_iff.1 hf).1 hf
    omega
  · exact h
theorem allTo_all {fr : List Fr} {t : Bool} (h : AllTo fr fr.length t) (ha : ∀ (i : Nat) (f : Fr), fr[i]? = some f → 0 < f.pins) : t = true := by
  rcases h with ⟨h, _⟩ | ⟨_, i, f, hf, hp⟩
  · exact h
  · exact absurd (ha i f hf) hp
end Go.Proofs.Ytecjccjgcdnpnaa
