/- The probe 'alive' of the statements on values answers true and touches nothing that was there. -/
import Derived.Test.YtnddcicadmbmkaaGreatDoorE3
import Derived.Test.YtnddcicadmbmkaaGreatDoorC3
namespace Go.Proofs.YtnddcicadmbmkaaGreatDoor
open Go.RowKit Go.Maps

def sA : ByteArray := ⟨#[65]⟩
def sB : ByteArray := ⟨#[66]⟩
def sx : ByteArray := ⟨#[120, 34]⟩
def symV (s : ByteArray) : V := .mk 2 0 s []
def bV : V := .mk 3 0 sB [leafV sA, symV sx]
def st1 : St := (putV bV ([], [])).2.2
theorem num1 : (putV bV ([], [])).1 = 1 ∧ (putV bV ([], [])).2.1 = 0 := by decide +kernel
theorem num2 : (putV (leafV sA) st1).1 = 0 ∧ (putV (leafV sA) st1).2.1 = 0 ∧ (putV (leafV sA) st1).2.2.2.length = 2 := by decide +kernel
theorem rightB : rightV bV = true := by decide +kernel
theorem rightA : rightV (leafV sA) = true := by decide +kernel
theorem textB : textOf bV = [36, 66, 40, 36, 65, 40, 41, 44, 32, 34, 120, 92, 34, 34, 41] := by decide +kernel
theorem orderAB : orderV (leafV sA) bV = -1 := by decide +kernel
theorem okA : (leafV sA).Ok := by unfold leafV V.Ok OkL; refine ⟨by decide, by decide, by decide, by decide, trivial⟩
theorem okB : bV.Ok := by unfold bV V.Ok OkL OkL OkL; exact ⟨by decide, by decide, by decide, by decide, okA, by unfold symV V.Ok OkL; exact ⟨by decide, by decide, by decide, by decide, trivial⟩, trivial⟩
theorem leaf_isVP (P : Nat → Prop) (w : World) (s : ByteArray) : IsVP P w (leafV s) (.agg #[.int .i64 3, .int .i64 0, .string s, .slice none 0 0]) := ⟨_, rfl, by unfold leafV SubP; exact ⟨none, 0, rfl, Nat.le_refl _, .inl rfl⟩⟩
theorem leaf_isV (B : Nat) (w : World) (s : ByteArray) : IsV B w (leafV s) (.agg #[.int .i64 3, .int .i64 0, .string s, .slice none 0 0]) := IsV.of_p (leaf_isVP (fun k => k < B) w s) (fun _ h => h)
theorem b_isVP (w : World) (g : Nat) (h : w.heap[g]? = some (.cells #[.int .i64 3, .int .i64 0, .string sA, .slice none 0 0, .int .i64 2, .int .i64 0, .string sx, .slice none 0 0] 24 (0, 0))) : IsVP (fun k => k = g) w bV (.agg #[.int .i64 3, .int .i64 0, .string sB, .slice (some ⟨g, 0, none⟩) 2 2]) := by
  refine ⟨_, rfl, ?_⟩
  unfold bV SubP
  refine ⟨_, _, rfl, Nat.le_refl _, .inr ⟨g, 0, rfl, rfl, ?_⟩⟩
  unfold EltsP EltsP EltsP
  refine ⟨⟨.slice none 0 0, ?_, ?_, ?_, ?_, ?_⟩, ⟨.slice none 0 0, ?_, ?_, ?_, ?_, ?_⟩, trivial⟩
  all_goals first | (rw [cell_of h]; rfl) | skip
  · unfold leafV SubP; exact ⟨none, 0, rfl, Nat.le_refl _, .inl rfl⟩
  · unfold symV SubP; exact ⟨none, 0, rfl, Nat.le_refl _, .inl rfl⟩
theorem four_held {W0 w1 : World} {b : Nat} {x0 x1 x2 x3 : Value} {t : TypeId} {z : Nat × Nat} (h : Below W0.heap.size W0 w1) (h1 : W0.heap[b]? = some (.cells #[x0, x1, x2, x3] t z)) (hb : b < W0.heap.size) :
    Below W0.heap.size W0 w1 ∧ w1.cell? ⟨b, 0, none⟩ = some x0 ∧ w1.cell? ⟨b, 1, none⟩ = some x1 ∧ w1.cell? ⟨b, 2, none⟩ = some x2 ∧ w1.cell? ⟨b, 3, none⟩ = some x3 := by
  have := block4 ((h.block b hb).trans h1)
  exact ⟨h, this⟩
end Go.Proofs.YtnddcicadmbmkaaGreatDoor
