/- Blocks of cells: what is read of one, what a store makes of it. -/
import Derived.Test.YtnddcicadmbmkaaGreatDoorA2
namespace Go.Proofs.YtnddcicadmbmkaaGreatDoor
open Go.RowKit

theorem set_block {w : World} {b j : Nat} {cs : Array Value} {t : TypeId} {v : Value} (h : w.heap[b]? = some (.cells cs t (0, 0))) : (w.setCell ⟨b, j, none⟩ v).heap[b]? = some (.cells (cs.set! j v) t (0, 0)) := by
  simp [World.setCell, Array.getElem?_modify, h]
theorem cell_of {w : World} {b j : Nat} {cs : Array Value} {t : TypeId} {z : Nat × Nat} (h : w.heap[b]? = some (.cells cs t z)) : w.cell? ⟨b, j, none⟩ = cs[j]? := by
  simp [World.cell?, h]
theorem free_of {w : World} {b j : Nat} {cs : Array Value} {t : TypeId} (h : w.heap[b]? = some (.cells cs t (0, 0))) : w.frozen? ⟨b, j, none⟩ = false := by
  simp [World.frozen?, h]
theorem block4 {w : World} {b : Nat} {x0 x1 x2 x3 : Value} {t : TypeId} {z : Nat × Nat} (h : w.heap[b]? = some (.cells #[x0, x1, x2, x3] t z)) : w.cell? ⟨b, 0, none⟩ = some x0 ∧ w.cell? ⟨b, 1, none⟩ = some x1 ∧ w.cell? ⟨b, 2, none⟩ = some x2 ∧ w.cell? ⟨b, 3, none⟩ = some x3 := by
  simp [World.cell?, h]
end Go.Proofs.YtnddcicadmbmkaaGreatDoor
