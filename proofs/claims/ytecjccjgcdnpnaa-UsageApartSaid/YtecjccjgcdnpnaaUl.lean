/- An append of a slice of ints that came in, onto a row of the call's own. -/
import Derived.Test.YtecjccjgcdnpnaaUt
namespace Go.Proofs.Ytecjccjgcdnpnaa
open Go.RowKit
set_option linter.unusedSimpArgs false
set_option linter.unusedVariables false

theorem rd_cells {w : World} {A : Option Addr} {ys : List Int} (h : Rd w A ys) (hA : ys ≠ []) :
    ∃ ad, A = some ad ∧ ∀ j u, (ys.map (Value.int .i64))[j]? = some u → w.cell? (ad.add j) = some u := by
  rcases h with h | ⟨b, o, rfl, h⟩
  · exact absurd h hA
  · refine ⟨_, rfl, fun j u hu => ?_⟩
    rw [List.getElem?_map] at hu
    have hj : j < ys.length := by
      rcases Nat.lt_or_ge j ys.length with hj | hj
      · exact hj
      · rw [List.getElem?_eq_none hj] at hu; cases hu
    rw [List.getElem?_eq_getElem hj] at hu
    simp at hu
    rw [add_off (n := 0) none rfl, h j hj, ← hu]
    simp [List.getD, List.getElem?_eq_getElem hj]

theorem run_app (w : World) (base : Nat) (ty : TypeId) (v : Value) (n : Nat) (xs : List Value) (hown : w.ownsRow base 3 1 v n xs)
    (A : Option Addr) (c : Nat) (ys : List Int) (hr : Rd w A ys) (hn : n + ys.length ≤ 1000000) (hbase : base ≤ w.heap.size) :
    ∃ v' w', (Builtin.append_ #[37, 37] ty #[v, .slice A ys.length c]).run Try.prog w = .ok v' w' ∧ w'.ownsRow base 3 1 v' (n + ys.length) (xs ++ ys.map (Value.int .i64)) ∧ w.grownBy w' v.ownBlock := by
  obtain ⟨i0, hi0, hz0, hz1, hz2⟩ := info_parts info3
  by_cases hy : ys = []
  · subst hy
    cases A with
    | none =>
      refine ⟨v, w, ?_, by simpa using hown, World.grownBy.refl w _⟩
      rcases hown.2 with ⟨rfl, rfl⟩ | ⟨g, cap, cur, rfl, _, _, hnc, _⟩
      · simp [Builtin.append_, run_underlying Try.underlying37, sizeOf, typeInfo, hi0, Builtin.lenOf, Builtin.firstCells]
      · simp [Builtin.append_, run_underlying Try.underlying37, sizeOf, typeInfo, hi0, Builtin.lenOf, Builtin.firstCells, hnc, storeCells]
    | some ad =>
      obtain ⟨v', w', h1, h2, h3, _, _⟩ := run_append_own_at (P := Try.prog) w base 37 ty 3 i0 (.int .i64 0) 1 8 Try.underlying37 hi0 hz0 hz1 hz2 rfl (by omega) v n xs hown ad 0 c [] rfl (fun j u hu => by simp at hu) (by simp) (by simp only [maxLen]; simp at hn; omega) (by simp at hn; omega) hbase
      exact ⟨v', w', h1, by simpa using h2, h3⟩
  · obtain ⟨ad, rfl, hc⟩ := rd_cells hr hy
    obtain ⟨v', w', h1, h2, h3, _, _⟩ := run_append_own_at (P := Try.prog) w base 37 ty 3 i0 (.int .i64 0) 1 8 Try.underlying37 hi0 hz0 hz1 hz2 rfl (by omega) v n xs hown ad ys.length c (ys.map (Value.int .i64)) (by simp) hc (by simp [Value.oneCell']) (by simp only [maxLen]; omega) (by omega) hbase
    exact ⟨v', w', h1, h2, h3⟩

section
variable (w : World) {ops : Array Oper} {rest : List Oper} {o : Oper} {a : Act} {Q : Exit → Act → World → Prop}
theorem wp_app {K : Act → World → Prop} (s x : Operand) (ho : o.op = .call { callee := .builtin .append, args := #[s, x], argTypes := #[37, 37] })
    (base : Nat) (v : Value) (n : Nat) (xs : List Value) (hs : a.eval s = v) (hown : w.ownsRow base 3 1 v n xs)
    (A : Option Addr) (c : Nat) (ys : List Int) (hx : a.eval x = .slice A ys.length c) (hr : Rd w A ys) (hn : n + ys.length ≤ 1000000) (hbase : base ≤ w.heap.size)
    (h : ∀ v' w', w'.ownsRow base 3 1 v' (n + ys.length) (xs ++ ys.map (Value.int .i64)) → w.grownBy w' v.ownBlock → K (a.put o.dst v') w') : o.wp Try.prog a w K Q := by
  obtain ⟨v', w', hrun, h2, h3⟩ := run_app w base o.type v n xs hown A c ys hr hn hbase
  unfold Oper.wp execOp
  simp only [ho, resolve, invoke, builtin, Sem.run_bind, Sem.run_pure, Result.andThen_ok, List.map_toArray, List.map_cons, List.map_nil, hs, hx, hrun]
  exact h v' w' h2 h3
theorem wpList_app (hgd : o.guard = none) (s x : Operand) (ho : o.op = .call { callee := .builtin .append, args := #[s, x], argTypes := #[37, 37] })
    (base : Nat) (v : Value) (n : Nat) (xs : List Value) (hs : a.eval s = v) (hown : w.ownsRow base 3 1 v n xs)
    (A : Option Addr) (c : Nat) (ys : List Int) (hx : a.eval x = .slice A ys.length c) (hr : Rd w A ys) (hn : n + ys.length ≤ 1000000) (hbase : base ≤ w.heap.size)
    (h : ∀ v' w', w'.ownsRow base 3 1 v' (n + ys.length) (xs ++ ys.map (Value.int .i64)) → w.grownBy w' v.ownBlock → wpList Try.prog ops Q rest (a.put o.dst v') w') : wpList Try.prog ops Q (o :: rest) a w :=
  wpList_plain hgd fun _ hK => wp_app w s x ho base v n xs hs hown A c ys hx hr hn hbase fun v' w' h2 h3 => hK _ _ (h v' w' h2 h3)
theorem step_app {K : Act → World → Prop} {E : Prop} (hgd : o.guard = none) (s x : Operand) (ho : o.op = .call { callee := .builtin .append, args := #[s, x], argTypes := #[37, 37] })
    (base : Nat) (v : Value) (n : Nat) (xs : List Value) (hs : a.eval s = v) (hown : w.ownsRow base 3 1 v n xs)
    (A : Option Addr) (c : Nat) (ys : List Int) (hx : a.eval x = .slice A ys.length c) (hr : Rd w A ys) (hn : n + ys.length ≤ 1000000) (hbase : base ≤ w.heap.size)
    (h : ∀ v' w', w'.ownsRow base 3 1 v' (n + ys.length) (xs ++ ys.map (Value.int .i64)) → w.grownBy w' v.ownBlock → K (a.put o.dst v') w') :
    if Region.wanted o (yielded ops a.tmps) = true then Oper.wp Try.prog o a w K Q else E := by
  have hw : Region.wanted o (yielded ops a.tmps) = true := by simp [Region.wanted, hgd]
  rw [if_pos hw]
  exact wp_app w s x ho base v n xs hs hown A c ys hx hr hn hbase h
end

theorem own_new (w : World) (base : Nat) (h : base ≤ w.heap.size) : (w.alloc (.cells #[] 3)).ownsRow base 3 1 (.slice (some ⟨w.heap.size, 0, none⟩) 0 0) 0 [] :=
  ⟨rfl, .inr ⟨w.heap.size, 0, #[], rfl, h, heap_alloc_new w _, Nat.le_refl _, by unfold maxLen; omega, rfl, rfl⟩⟩

theorem cnt_append (p s l f : Int) (a b : List Int) (k : Nat) : cnt p s l f (a ++ b) k = cnt p s l f a k + cnt p s l f b k := by
  simp [cnt]

theorem live_bd {p s l f : Int} (ps : List Int) : ∀ x ∈ liveL p s l f ps, 0 ≤ x ∧ x ≤ ps.length := by
  intro x hx
  unfold liveL at hx
  split at hx
  · simp at hx
    obtain ⟨k, _, rfl⟩ := hx
    have := cnt_le p s l f ps k
    omega
  · simp at hx

/-- How many of the places lie in segments. -/
def inN (p s l f : Int) (ps : List Int) : Nat := (ps.filter fun x => inB p s l f x).length

theorem sum_range_ind (f : Nat → Int) (n j : Nat) (c : Int) (hj : j < n) (h : ∀ k, f k = if k = j then c else 0) : ((List.range n).map f).sum = c := by
  induction n with
  | zero => omega
  | succ n ih =>
    rw [List.range_succ, List.map_append, List.sum_append]
    by_cases hn : j = n
    · subst hn
      have h0 : ((List.range j).map f).sum = 0 := by
        have : (List.range j).map f = List.replicate j 0 := by
          apply List.ext_getElem?
          intro i
          by_cases hi : i < j
          · simp [hi, h i, Nat.ne_of_lt hi]
          · simp [hi]
        rw [this]
        simp
      rw [h0]
      simp [h j]
    · rw [ih (by omega)]
      simp [h n, Ne.symm hn]

theorem sum_map_add (f g : Nat → Int) (l : List Nat) : (l.map fun k => f k + g k).sum = (l.map f).sum + (l.map g).sum := by
  induction l with
  | nil => rfl
  | cons a l ih => simp only [List.map_cons, List.sum_cons, ih]; omega

theorem sum_zero (l : List Nat) : (l.map fun _ => (0 : Int)).sum = 0 := by
  induction l with
  | nil => rfl
  | cons a l ih => simp only [List.map_cons, List.sum_cons, ih]; rfl

theorem posSum_live {p s l f : Int} (hg : goodB p s l f = true) (ps : List Int) : posSum (liveL p s l f ps) = inN p s l f ps := by
  have h0 : posSum (liveL p s l f ps) = ((List.range s.toNat).map fun k => (cnt p s l f ps k : Int)).sum := by
    simp only [posSum, liveL, hg, if_true, List.map_map]
    congr 1
  rw [h0]
  clear h0
  induction ps with
  | nil =>
    simp only [cnt, inN, List.filter_nil, List.length_nil]
    exact sum_zero _
  | cons a t ih =>
    have e : ∀ k, (cnt p s l f (a :: t) k : Int) = (cnt p s l f [a] k : Int) + (cnt p s l f t k : Int) := by
      intro k
      have := cnt_append p s l f [a] t k
      simp only [List.singleton_append] at this
      omega
    rw [show (fun k => (cnt p s l f (a :: t) k : Int)) = (fun k => (cnt p s l f [a] k : Int) + (cnt p s l f t k : Int)) from funext e, sum_map_add, ih]
    by_cases hi : inB p s l f a = true
    · obtain ⟨q0, q1⟩ := ofS_range hi
      rw [sum_range_ind (fun k => (cnt p s l f [a] k : Int)) s.toNat (ofS p s l f a).toNat 1 (by omega)]
      · simp [inN, hi]; omega
      · intro k
        simp only [cnt, List.filter_cons, hi, Bool.true_and, List.filter_nil]
        by_cases hk : k = (ofS p s l f a).toNat
        · rw [if_pos hk]
          have : (ofS p s l f a == (k : Int)) = true := by simp; omega
          simp [this]
        · rw [if_neg hk]
          have : (ofS p s l f a == (k : Int)) = false := by simp; omega
          simp [this]
    · have hi' : inB p s l f a = false := by simpa using hi
      have hz : (fun k => (cnt p s l f [a] k : Int)) = fun _ => 0 := by
        funext k
        simp [cnt, hi']
      rw [hz, sum_zero]
      simp [inN, hi']

theorem posSum_bad {p s l f : Int} (hg : goodB p s l f = false) (ps : List Int) : posSum (liveL p s l f ps) = 0 := by simp [liveL, hg, posSum]
theorem inN_le (p s l f : Int) (ps : List Int) : inN p s l f ps ≤ ps.length := List.length_filter_le _ _
theorem inN_append (p s l f : Int) (a b : List Int) : inN p s l f (a ++ b) = inN p s l f a + inN p s l f b := by simp [inN]
end Go.Proofs.Ytecjccjgcdnpnaa
