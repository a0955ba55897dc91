/- Incoming lists of steps and of bools; plain facts on a clock's keys. -/
import Derived.Test.YtecjccjgcdnpnaaCw
import Derived.Test.YtecjccjgcdnpnaaUs
namespace Go.Proofs.Ytecjccjgcdnpnaa
open Go.RowKit
set_option linter.unusedSimpArgs false
set_option linter.unusedVariables false

structure St where
  kind : Int
  frame : Int
  key : Int

/-- The steps' cells stand one behind the other from address A on. -/
def RdS (w : World) (A : Option Addr) (xs : List St) : Prop :=
  xs = [] ∨ ∃ b o, A = some ⟨b, o, none⟩ ∧ ∀ i x, xs[i]? = some x → w.cell? ⟨b, o + i * 3, none⟩ = some (.int .i64 x.kind) ∧ w.cell? ⟨b, o + i * 3 + 1, none⟩ = some (.int .i64 x.frame) ∧ w.cell? ⟨b, o + i * 3 + 2, none⟩ = some (.int .i64 x.key)

def StRow (w : World) (a : Option Addr) (len cap : Nat) (zs : List St) : Prop :=
  (a = none ∧ len = 0 ∧ cap = 0 ∧ zs = []) ∨
  ∃ x, a = some x ∧ len ≤ cap ∧ cap ≤ maxLen ∧ zs.length = len ∧ ∀ i z, zs[i]? = some z → w.cell? (x.add (i * 3)) = some (.int .i64 z.kind) ∧ w.cell? (x.add (i * 3 + 1)) = some (.int .i64 z.frame) ∧ w.cell? (x.add (i * 3 + 2)) = some (.int .i64 z.key)

def RdB (w : World) (A : Option Addr) (xs : List Bool) : Prop :=
  xs = [] ∨ ∃ b o, A = some ⟨b, o, none⟩ ∧ ∀ i x, xs[i]? = some x → w.cell? ⟨b, o + i, none⟩ = some (.bool x)

def BoRow (w : World) (a : Option Addr) (len cap : Nat) (zs : List Bool) : Prop :=
  (a = none ∧ len = 0 ∧ cap = 0 ∧ zs = []) ∨
  ∃ x, a = some x ∧ len ≤ cap ∧ cap ≤ maxLen ∧ zs.length = len ∧ ∀ i z, zs[i]? = some z → w.cell? (x.add i) = some (.bool z)

section
variable {w w' : World} {A : Option Addr}
theorem noSpot {x : Addr} {v : Value} (h : w.cell? (x.add 0) = some v) : x = ⟨x.block, x.off, none⟩ := by
  obtain ⟨b, o, sp⟩ := x
  cases sp with
  | none => rfl
  | some y =>
    exfalso
    simp only [Addr.add, if_true, World.cell?] at h
    split at h <;> simp at h
theorem add_pl (b o i : Nat) : (Addr.add ⟨b, o, none⟩ i) = ⟨b, o + i, none⟩ := by
  unfold Addr.add
  split
  · rename_i h; subst h; rfl
  · rfl

theorem rds_of_row {a : Option Addr} {len cap : Nat} {zs : List St} (h : StRow w a len cap zs) : RdS w a zs ∧ zs.length = len ∧ len ≤ cap ∧ cap ≤ maxLen := by
  rcases h with ⟨rfl, rfl, rfl, rfl⟩ | ⟨x, rfl, hl, hm, hz, hc⟩
  · exact ⟨.inl rfl, rfl, Nat.le_refl _, by unfold maxLen; omega⟩
  · refine ⟨?_, hz, hl, hm⟩
    by_cases h0 : zs = []
    · exact .inl h0
    · right
      have hp : 0 < zs.length := List.length_pos_iff.2 h0
      have hx := noSpot (hc 0 zs[0] (List.getElem?_eq_getElem hp)).1
      refine ⟨x.block, x.off, by rw [← hx], fun i z hi => ?_⟩
      obtain ⟨c0, c1, c2⟩ := hc i z hi
      rw [hx, add_pl] at c0 c1 c2
      exact ⟨c0, c1, c2⟩
theorem rdb_of_row {a : Option Addr} {len cap : Nat} {zs : List Bool} (h : BoRow w a len cap zs) : RdB w a zs ∧ zs.length = len ∧ len ≤ cap ∧ cap ≤ maxLen := by
  rcases h with ⟨rfl, rfl, rfl, rfl⟩ | ⟨x, rfl, hl, hm, hz, hc⟩
  · exact ⟨.inl rfl, rfl, Nat.le_refl _, by unfold maxLen; omega⟩
  · refine ⟨?_, hz, hl, hm⟩
    by_cases h0 : zs = []
    · exact .inl h0
    · right
      have hp : 0 < zs.length := List.length_pos_iff.2 h0
      have hx := noSpot (hc 0 zs[0] (List.getElem?_eq_getElem hp))
      refine ⟨x.block, x.off, by rw [← hx], fun i z hi => ?_⟩
      have c0 := hc i z hi
      rw [hx, add_pl] at c0
      exact c0

theorem rds_keep {xs : List St} (h : RdS w A xs) (hb : Below w.heap.size w w') : RdS w' A xs := by
  rcases h with h | ⟨b, o, hA, h⟩
  · exact .inl h
  · exact .inr ⟨b, o, hA, fun i x hi => by obtain ⟨c0, c1, c2⟩ := h i x hi; exact ⟨bel_keep hb c0, bel_keep hb c1, bel_keep hb c2⟩⟩
theorem rdb_keep {xs : List Bool} (h : RdB w A xs) (hb : Below w.heap.size w w') : RdB w' A xs := by
  rcases h with h | ⟨b, o, hA, h⟩
  · exact .inl h
  · exact .inr ⟨b, o, hA, fun i x hi => bel_keep hb (h i x hi)⟩
theorem rds_at {xs : List St} (h : RdS w A xs) {k : Nat} (hk : k < xs.length) : ∃ b o x, A = some ⟨b, o, none⟩ ∧ xs[k]? = some x ∧ w.cell? ⟨b, o + k * 3, none⟩ = some (.int .i64 x.kind) ∧ w.cell? ⟨b, o + k * 3 + 1, none⟩ = some (.int .i64 x.frame) ∧ w.cell? ⟨b, o + k * 3 + 2, none⟩ = some (.int .i64 x.key) := by
  rcases h with h | ⟨b, o, hA, h⟩
  · subst h; simp at hk
  · exact ⟨b, o, xs[k], hA, List.getElem?_eq_getElem hk, h k _ (List.getElem?_eq_getElem hk)⟩
theorem rdb_at {xs : List Bool} (h : RdB w A xs) {k : Nat} (hk : k < xs.length) : ∃ b o x, A = some ⟨b, o, none⟩ ∧ xs[k]? = some x ∧ w.cell? ⟨b, o + k, none⟩ = some (.bool x) := by
  rcases h with h | ⟨b, o, hA, h⟩
  · subst h; simp at hk
  · exact ⟨b, o, xs[k], hA, List.getElem?_eq_getElem hk, h k _ (List.getElem?_eq_getElem hk)⟩
end

theorem blk_only {w w' : World} {cb fb g : Nat} {t : TypeId} {cs : Array Value} (h : Blk w g t cs) (o : Only cb fb w w') (h1 : ¬ g = cb) (h2 : ¬ g = fb) : Blk w' g t cs := (o.block g (blk_lt h) h1 h2).trans h

/-- What a clock's frames are like while no frame is pinned. -/
structure KInv (fr : List Fr) : Prop where
  pins : ∀ (i : Nat) (f : Fr), fr[i]? = some f → f.pins = 0
  keys : ∀ (i : Nat) (f : Fr), fr[i]? = some f → -1 ≤ f.key
  uni : ∀ (i j : Nat) (f g : Fr), fr[i]? = some f → fr[j]? = some g → f.key = g.key → 0 ≤ f.key → i = j

/-- What the law's search has found before index k. -/
def Seen (fr : List Fr) (key : Int) (k : Nat) (t : Int) : Prop :=
  (t = -1 ∧ ∀ (i : Nat) (f : Fr), i < k → fr[i]? = some f → ¬ (0 ≤ key ∧ f.key = key)) ∨ (∃ (j : Nat) (f : Fr), t = j ∧ 0 ≤ key ∧ fr[j]? = some f ∧ f.key = key)

theorem seen_zero (fr : List Fr) (key : Int) : Seen fr key 0 (-1) := .inl ⟨rfl, fun i f h => absurd h (by omega)⟩
theorem seen_hit {fr : List Fr} {key : Int} {k : Nat} {f : Fr} (hk : 0 ≤ key) (hf : fr[k]? = some f) (he : f.key = key) : Seen fr key (k + 1) k := .inr ⟨k, f, rfl, hk, hf, he⟩
theorem seen_miss {fr : List Fr} {key t : Int} {k : Nat} {f : Fr} (h : Seen fr key k t) (hf : fr[k]? = some f) (hn : ¬ (0 ≤ key ∧ f.key = key)) : Seen fr key (k + 1) t := by
  rcases h with ⟨rfl, h⟩ | h
  · refine .inl ⟨rfl, fun i g hi hg => ?_⟩
    by_cases hik : i < k
    · exact h i g hik hg
    · obtain rfl : i = k := by omega
      rw [hf] at hg; injection hg with hg; subst hg; exact hn
  · exact .inr h
theorem seen_end {fr : List Fr} {key t : Int} (K : KInv fr) (h : Seen fr key fr.length t) : (t = -1 ∧ findR fr key = none) ∨ ∃ j : Nat, t = j ∧ j < fr.length ∧ 0 ≤ key ∧ findR fr key = some j ∧ findF fr key = some j := by
  rcases h with ⟨rfl, h⟩ | ⟨j, f, rfl, hk, hf, he⟩
  · refine .inl ⟨rfl, ?_⟩
    unfold findR
    split
    · rfl
    · exact findF_none fun i f hi he => h i f (List.getElem?_eq_some_iff.1 hi).1 hi ⟨by omega, he⟩
  · have hF : findF fr key = some j := findF_some hf he fun i g hi hg hge => by
      have := K.uni i j g f hg hf (by rw [hge, he]) (by omega)
      omega
    refine .inr ⟨j, rfl, (List.getElem?_eq_some_iff.1 hf).1, hk, ?_, hF⟩
    unfold findR
    rw [if_neg (by omega), hF]

def keysOf (fr : List Fr) : List Int := fr.map Fr.key
theorem keysOf_length (fr : List Fr) : (keysOf fr).length = fr.length := List.length_map ..
theorem keysOf_get {fr : List Fr} {k : Nat} {f : Fr} (h : fr[k]? = some f) : (keysOf fr)[k]? = some f.key := by simp [keysOf, h]
theorem keysOf_set (fr : List Fr) (k : Nat) (f : Fr) : keysOf (fr.set k f) = (keysOf fr).set k f.key := by simp [keysOf, List.map_set]
theorem kinv_new (n : Nat) : KInv (List.replicate n ⟨-1, false, 0⟩) :=
  ⟨fun i f h => by rw [List.getElem?_replicate] at h; split at h <;> simp at h; rw [← h],
   fun i f h => by rw [List.getElem?_replicate] at h; split at h <;> simp at h; rw [← h]; decide,
   fun i j f g h _ _ hk => by rw [List.getElem?_replicate] at h; split at h <;> simp at h; rw [← h] at hk; simp at hk⟩
theorem kinv_set {fr : List Fr} {k : Nat} {f : Fr} (K : KInv fr) (hp : f.pins = 0) (hk : -1 ≤ f.key) (hu : 0 ≤ f.key → ∀ (i : Nat) (g : Fr), fr[i]? = some g → g.key = f.key → i = k) : KInv (fr.set k f) := by
  have hs : ∀ (i : Nat) (g : Fr), (fr.set k f)[i]? = some g → (i = k ∧ g = f) ∨ (i ≠ k ∧ fr[i]? = some g) := by
    intro i g h
    rw [List.getElem?_set] at h
    by_cases e : k = i
    · subst e
      rw [if_pos rfl] at h
      split at h
      · injection h with h; exact .inl ⟨rfl, h.symm⟩
      · cases h
    · rw [if_neg e] at h
      exact .inr ⟨fun q => e q.symm, h⟩
  refine ⟨fun i g h => ?_, fun i g h => ?_, fun i j g g' h h' he h0 => ?_⟩
  · rcases hs i g h with ⟨_, rfl⟩ | ⟨_, h⟩
    · exact hp
    · exact K.pins i g h
  · rcases hs i g h with ⟨_, rfl⟩ | ⟨_, h⟩
    · exact hk
    · exact K.keys i g h
  · rcases hs i g h with ⟨rfl, rfl⟩ | ⟨hn, hi⟩ <;> rcases hs j g' h' with ⟨rfl, rfl⟩ | ⟨hn', hj⟩
    · rfl
    · exact (hu h0 j g' hj he.symm).symm
    · exact hu (by omega) i g hi he
    · exact K.uni i j g g' hi hj he h0

theorem frAt_in {fr : List Fr} {i : Nat} {f : Fr} (h : fr[i]? = some f) : frAt fr (i : Int) = some f := by
  unfold frAt
  rw [if_neg (by omega), Int.toNat_natCast, h]
theorem frAt_out {fr : List Fr} {i : Int} (h : i < 0 ∨ (fr.length : Int) ≤ i) : frAt fr i = none := by
  unfold frAt
  split
  · rfl
  · exact List.getElem?_eq_none (by omega)
theorem drop_in {fr : List Fr} {i : Nat} {f : Fr} (h : fr[i]? = some f) (hp : f.pins = 0) : dropR fr (i : Int) = (true, fr.set i ⟨-1, false, 0⟩) := by
  obtain ⟨k, m, p⟩ := f
  simp at hp
  subst hp
  simp only [dropR, frAt_in h, Int.toNat_natCast]
  rw [if_pos (Int.lt_irrefl 0)]
theorem drop_out {fr : List Fr} {i : Int} (h : i < 0 ∨ (fr.length : Int) ≤ i) : dropR fr i = (false, fr) := by
  simp only [dropR, frAt_out h]
theorem put_out {fr : List Fr} {i : Int} (key : Int) (h : i < 0 ∨ (fr.length : Int) ≤ i) : putR fr i key = (false, fr) := by
  simp only [putR, frAt_out h]
theorem put_neg {fr : List Fr} {i : Nat} {f : Fr} {key : Int} (h : fr[i]? = some f) (hk : key < 0) : putR fr i key = (false, fr) := by
  simp only [putR, frAt_in h]
  rw [if_neg]
  rintro ⟨h1, _⟩
  omega
theorem put_other {fr : List Fr} {i j : Nat} {f : Fr} {key : Int} (h : fr[i]? = some f) (hF : findF fr key = some j) (hj : j ≠ i) : putR fr i key = (false, fr) := by
  simp only [putR, frAt_in h]
  rw [if_neg]
  rintro ⟨_, h2, _⟩
  have := h2 j hF
  omega
theorem put_pinned {fr : List Fr} {i : Nat} {f : Fr} {key : Int} (h : fr[i]? = some f) (hp : 0 < f.pins) : putR fr i key = (false, fr) := by
  simp only [putR, frAt_in h]
  rw [if_neg]
  rintro ⟨_, _, h2⟩
  exact h2 hp
theorem put_ok {fr : List Fr} {i : Nat} {f : Fr} {key : Int} (h : fr[i]? = some f) (hk : 0 ≤ key) (hp : f.pins = 0) (hF : findF fr key = none ∨ findF fr key = some i) : putR fr i key = (true, fr.set i ⟨key, true, 0⟩) := by
  obtain ⟨k, m, p⟩ := f
  simp at hp
  subst hp
  simp only [putR, frAt_in h, Int.toNat_natCast]
  rw [if_pos]
  refine ⟨hk, fun j hj => ?_, Int.lt_irrefl 0⟩
  rcases hF with hF | hF
  · rw [hF] at hj; cases hj
  · rw [hF] at hj; injection hj with hj; rw [hj]
theorem findF_not {fr : List Fr} {key : Int} (h : findF fr key = none) {i : Nat} {f : Fr} (hi : fr[i]? = some f) : ¬ f.key = key := by
  unfold findF at h
  rw [List.findIdx?_eq_none_iff] at h
  have := h f (List.mem_of_getElem? hi)
  simpa using this
theorem findF_at {fr : List Fr} {key : Int} {j : Nat} (h : findF fr key = some j) : ∃ f, fr[j]? = some f ∧ f.key = key := by
  unfold findF at h
  rw [List.findIdx?_eq_some_iff_getElem] at h
  obtain ⟨hl, hx, _⟩ := h
  exact ⟨fr[j], List.getElem?_eq_getElem hl, by simpa using hx⟩
theorem findR_nn {fr : List Fr} {key : Int} (hk : 0 ≤ key) : findR fr key = findF fr key := by
  unfold findR; rw [if_neg (by omega)]
theorem kinv_drop {fr : List Fr} {i : Nat} (K : KInv fr) : KInv (fr.set i ⟨-1, false, 0⟩) := kinv_set K rfl (Int.le_refl _) (fun h => absurd h (by decide))
theorem kinv_put {fr : List Fr} {i : Nat} {key : Int} (K : KInv fr) (hk : 0 ≤ key) (hF : findF fr key = none ∨ findF fr key = some i) : KInv (fr.set i ⟨key, true, 0⟩) := by
  refine kinv_set K rfl (by simp; omega) (fun _ i' g hg he => ?_)
  rcases hF with hF | hF
  · exact absurd he (findF_not hF hg)
  · obtain ⟨f, hf, hfk⟩ := findF_at hF
    exact K.uni i' i g f hg hf (by rw [hfk]; exact he) (by simp at he; omega)
theorem key_some {fr : List Fr} {i : Nat} {f : Fr} (h : fr[i]? = some f) (hk : 0 ≤ f.key) : keyR fr (i : Int) = (f.key, true) := by
  simp only [keyR, frAt_in h]
  rw [if_neg (by omega)]
theorem key_none {fr : List Fr} {i : Nat} {f : Fr} (h : fr[i]? = some f) (hk : f.key = -1) : keyR fr (i : Int) = (0, false) := by
  simp only [keyR, frAt_in h, hk, if_true]

def inN (N : Nat) (f : Int) : Bool := decide (0 ≤ f ∧ f < (N : Int))
theorem inN_out {N : Nat} {f : Int} (h : f < 0 ∨ (N : Int) ≤ f) : inN N f = false := decide_eq_false (by omega)
theorem inN_in {N i : Nat} (h : i < N) : inN N (i : Int) = true := decide_eq_true (by omega)
/-- What ClockKeys has in memory: its wishes, the clock, the step. -/
def KSt (w : World) (g bx cb fb : Nat) (ks : List Int) (fr : List Fr) (hand : Nat) (xk xf xy : Int) (wx : World) : Prop :=
  Blk wx g 3 (iv ks) ∧ CA wx cb fb fr hand ∧ Below w.heap.size w wx ∧ Blk wx bx 52 #[.int .i64 xk, .int .i64 xf, .int .i64 xy]
end Go.Proofs.Ytecjccjgcdnpnaa
