/- Words on memory: a block that is known whole. -/
import Derived.Test.YtecjccjgcdnpnaaPl
import Derived.Deep.DeepCutAuto
import Derived.Deep.CutBlock
import Derived.Deep.LoopGhost
import Derived.Deep.OwnRows
import Derived.Deep.Draws
import Derived.Laws.Rows
namespace Go.Proofs.Ytecjccjgcdnpnaa
open Go.RowKit

/-- Block g is just these cells, none of them frozen. -/
def Blk (w : World) (g : Nat) (t : TypeId) (cs : Array Value) : Prop := w.heap[g]? = some (.cells cs t (0, 0))

section
variable {w w' : World} {g : Nat} {t : TypeId} {cs : Array Value}
theorem blk_lt (h : Blk w g t cs) : g < w.heap.size := (Array.getElem?_eq_some_iff.1 h).1
theorem blk_cell (h : Blk w g t cs) (i : Nat) : w.cell? ⟨g, i, none⟩ = cs[i]? := by
  unfold Blk at h
  simp [World.cell?, h]
theorem blk_froz (h : Blk w g t cs) (i : Nat) : w.frozen? ⟨g, i, none⟩ = false := by
  unfold Blk at h
  simp [World.frozen?, h]
theorem blk_new (w : World) (t : TypeId) (cs : Array Value) : Blk (w.alloc (.cells cs t)) w.heap.size t cs := by
  unfold Blk
  simp only [World.alloc]
  exact Array.getElem?_push_size
theorem blk_new2 (w : World) (o : Obj) (t : TypeId) (cs : Array Value) : Blk ((w.alloc o).alloc (.cells cs t)) (w.heap.size + 1) t cs := by
  have h := blk_new (w.alloc o) t cs
  rwa [World.size_alloc] at h
theorem blk_drew (h : Blk w g t cs) : Blk w.drew g t cs := h
theorem blk_drewN (h : Blk w g t cs) (n : Nat) : Blk (w.drewN n) g t cs := h
theorem blk_alloc (h : Blk w g t cs) (o : Obj) : Blk (w.alloc o) g t cs := by
  have hl := blk_lt h
  unfold Blk at h ⊢
  simp only [World.alloc]
  rw [Array.getElem?_push_lt hl]
  rw [Array.getElem?_eq_getElem hl] at h
  exact h
theorem blk_set (h : Blk w g t cs) (i : Nat) (u : Value) : Blk (w.setCell ⟨g, i, none⟩ u) g t (cs.setIfInBounds i u) := by
  unfold Blk at h ⊢
  simp [World.setCell, Array.getElem?_modify, h]
theorem blk_far (h : Blk w g t cs) {p : Addr} (hp : p.block ≠ g) (u : Value) : Blk (w.setCell p u) g t cs := by
  unfold Blk at h ⊢
  simp [World.setCell, Array.getElem?_modify, hp, h]
theorem blk_below {B : Nat} (h : Blk w g t cs) (hb : Below B w w') (hg : g < B) : Blk w' g t cs := (hb.block g hg).trans h
theorem blk_keep (h : Blk w g t cs) (hb : Below w.heap.size w w') : Blk w' g t cs := blk_below h hb (blk_lt h)
end

/-- The worlds that have at most new blocks beside those of w. -/
def Ext (w : World) : Type := { w' : World // Below w.heap.size w w' }
instance (w : World) : Nonempty (Ext w) := ⟨⟨w, Below.refl _ _⟩⟩
theorem ext_cell {w : World} {b o : Nat} {v : Value} (h : w.cell? ⟨b, o, none⟩ = some v) : ∀ x : Ext w, x.1.cell? ⟨b, o, none⟩ = some v := fun x => bel_keep x.2 h
theorem ext_mk {w w1 : World} (x : Ext w) (h : Below x.1.heap.size x.1 w1) : ∃ y : Ext w, w1 = y.1 := ⟨⟨w1, bel_step x.2 h⟩, rfl⟩

/-- A region that draws its order, whose operations only read, and whose callees make new memory alone: one walk in the order of the text. -/
theorem wp_region_ext {P : Program} {id : Nat} {Q : Exit → Act → World → Prop} {a : Act} {w : World} {l : List Oper} (hm : P.follows .mixedOrders = true) (hB : Region.lexB .any l.toArray = true)
    (h : wpQuiet P l.toArray (fun w' => ∃ x : Ext w, w' = x.1) (fun a' => ∀ w', (∃ x : Ext w, w' = x.1) → Q .normal a' w') l a) : (Code.region id l.toArray true).wp P Q a w :=
  wp_region_quiet (C := fun w' => ∃ x : Ext w, w' = x.1) hm hB ⟨⟨_, bel_draw1 (Below.refl _ _)⟩, rfl⟩ (by simpa using h)

end Go.Proofs.Ytecjccjgcdnpnaa
