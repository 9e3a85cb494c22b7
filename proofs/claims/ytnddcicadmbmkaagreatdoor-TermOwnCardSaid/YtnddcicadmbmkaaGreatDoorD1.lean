/- A constructor's value by numbers, as a map's key. -/
import Derived.Test.YtnddcicadmbmkaaGreatDoorS2
import Derived.DeepKeys4
namespace Go.Proofs.YtnddcicadmbmkaaGreatDoor
open Go.RowKit Go.Maps

theorem law77 : Keyed Tryz.prog 77 := Keyed.of_law (deep_law_laid (m := 4) (by kernel_rfl) (by omega) (of_decide_eq_true (by kernel_rfl)) (by kernel_rfl) (by kernel_rfl))
/-- the cells of a part -/
def partC (p : Int × Int) : List Value := [.int .i64 p.1, .int .i64 p.2]
def wfP (p : Int × Int) : Prop := (Lit.int .i64 p.1).wf = true ∧ (Lit.int .i64 p.2).wf = true
/-- the cells of a node: its name, how many parts, eight parts -/
def nodeC (s : ByteArray) (m : Int) (p0 p1 p2 p3 p4 p5 p6 p7 : Int × Int) : Array Value := #[.string s, .int .i64 m, .int .i64 p0.1, .int .i64 p0.2, .int .i64 p1.1, .int .i64 p1.2, .int .i64 p2.1, .int .i64 p2.2, .int .i64 p3.1, .int .i64 p3.2, .int .i64 p4.1, .int .i64 p4.2, .int .i64 p5.1, .int .i64 p5.2, .int .i64 p6.1, .int .i64 p6.2, .int .i64 p7.1, .int .i64 p7.2]
theorem lits3 (d : Nat) (n : Int) (h : (Lit.int .i64 n).wf = true) : Tryz.prog.keyLits (d + 1) 3 [.int .i64 n] = some [.int .i64 n] := by
  unfold Program.keyLits
  rw [Tryz.underlying3]
  simp [h]
theorem lits9 (d : Nat) (s : ByteArray) (h : s.size ≤ maxLen) : Tryz.prog.keyLits (d + 1) 9 [.string s] = some [.string s.data.toList] := by
  unfold Program.keyLits
  rw [Tryz.underlying9]
  simp [h]
theorem cells3 : Tryz.prog.cellsOf 3 = 1 := by kernel_rfl
theorem cells9 : Tryz.prog.cellsOf 9 = 1 := by kernel_rfl
theorem cells74 : Tryz.prog.cellsOf 74 = 2 := by kernel_rfl
theorem cells75 : Tryz.prog.cellsOf 75 = 16 := by kernel_rfl
theorem cells77 : Tryz.prog.cellsOf 77 = 18 := by kernel_rfl
theorem lits74 (d : Nat) (p : Int × Int) (h : wfP p) : Tryz.prog.keyLits (d + 2) 74 [.int .i64 p.1, .int .i64 p.2] = some [.int .i64 p.1, .int .i64 p.2] := by
  unfold Program.keyLits
  rw [Tryz.underlying74]
  simp [cells74, cells3, lits3 d _ h.1, lits3 d _ h.2]
def lits16 (p0 p1 p2 p3 p4 p5 p6 p7 : Int × Int) : List Lit := [.int .i64 p0.1, .int .i64 p0.2, .int .i64 p1.1, .int .i64 p1.2, .int .i64 p2.1, .int .i64 p2.2, .int .i64 p3.1, .int .i64 p3.2, .int .i64 p4.1, .int .i64 p4.2, .int .i64 p5.1, .int .i64 p5.2, .int .i64 p6.1, .int .i64 p6.2, .int .i64 p7.1, .int .i64 p7.2]
theorem lits75 (d : Nat) (p0 p1 p2 p3 p4 p5 p6 p7 : Int × Int) (h0 : wfP p0) (h1 : wfP p1) (h2 : wfP p2) (h3 : wfP p3) (h4 : wfP p4) (h5 : wfP p5) (h6 : wfP p6) (h7 : wfP p7) :
    Tryz.prog.keyLits (d + 3) 75 [.int .i64 p0.1, .int .i64 p0.2, .int .i64 p1.1, .int .i64 p1.2, .int .i64 p2.1, .int .i64 p2.2, .int .i64 p3.1, .int .i64 p3.2, .int .i64 p4.1, .int .i64 p4.2, .int .i64 p5.1, .int .i64 p5.2, .int .i64 p6.1, .int .i64 p6.2, .int .i64 p7.1, .int .i64 p7.2] = some (lits16 p0 p1 p2 p3 p4 p5 p6 p7) := by
  unfold Program.keyLits
  rw [Tryz.underlying75]
  simp [lits16, cells75, cells74, List.range_succ, lits74 d _ h0, lits74 d _ h1, lits74 d _ h2, lits74 d _ h3, lits74 d _ h4, lits74 d _ h5, lits74 d _ h6, lits74 d _ h7]
theorem key77 (s : ByteArray) (m : Int) (p0 p1 p2 p3 p4 p5 p6 p7 : Int × Int) (hs : s.size ≤ maxLen) (hm : (Lit.int .i64 m).wf = true) (h0 : wfP p0) (h1 : wfP p1) (h2 : wfP p2) (h3 : wfP p3) (h4 : wfP p4) (h5 : wfP p5) (h6 : wfP p6) (h7 : wfP p7) :
    keyOf Tryz.prog 77 (.agg (nodeC s m p0 p1 p2 p3 p4 p5 p6 p7)) = some (.string (keyBytes (.string s.data.toList :: .int .i64 m :: lits16 p0 p1 p2 p3 p4 p5 p6 p7))) := by
  obtain ⟨d, hd⟩ : ∃ d, Tryz.prog.types.size + 1 = d + 4 := ⟨Tryz.prog.types.size - 3, by have : 3 ≤ Tryz.prog.types.size := of_decide_eq_true (by kernel_rfl); omega⟩
  have hl := lits75 d p0 p1 p2 p3 p4 p5 p6 p7 h0 h1 h2 h3 h4 h5 h6 h7
  have hkt : Tryz.prog.keyType 77 = true := by kernel_rfl
  have hf : Value.formed Tryz.prog 77 (.agg (nodeC s m p0 p1 p2 p3 p4 p5 p6 p7)) = true := by
    unfold Value.formed
    simp [Tryz.underlying77, cells77, nodeC]
  have hq : Tryz.prog.keyLits (d + 4) 77 (nodeC s m p0 p1 p2 p3 p4 p5 p6 p7).toList = some (.string s.data.toList :: .int .i64 m :: lits16 p0 p1 p2 p3 p4 p5 p6 p7) := by
    unfold Program.keyLits
    rw [Tryz.underlying77]
    simp [cells77, cells75, cells9, cells3, nodeC, lits9 (d + 2) _ hs, lits3 (d + 2) _ hm, hl]
  unfold keyOf
  simp only [Tryz.underlying77, hkt, hf, Bool.and_self, if_true, Value.cells, hd, hq, Option.map_some]
end Go.Proofs.YtnddcicadmbmkaaGreatDoor
