/- A node while key fills it; what a put leaves. -/
import Derived.Test.YtnddcicadmbmkaaGreatDoorD4
namespace Go.Proofs.YtnddcicadmbmkaaGreatDoor
open Go.RowKit Go.Maps

/-- a node of m parts of which those in l are in -/
def ndP (s : ByteArray) (m : Int) (l : List (Int × Int)) : Array Value := nodeC s m (l.getD 0 (0, 0)) (l.getD 1 (0, 0)) (l.getD 2 (0, 0)) (l.getD 3 (0, 0)) (l.getD 4 (0, 0)) (l.getD 5 (0, 0)) (l.getD 6 (0, 0)) (l.getD 7 (0, 0))
theorem ndP_all (s : ByteArray) (l : List (Int × Int)) : ndP s l.length l = ndC (s, l) := rfl
theorem ndP_set (s : ByteArray) (m : Int) (l : List (Int × Int)) (a b : Int) (h : l.length < 8) : ((ndP s m l).set! (2 + l.length * 2) (.int .i64 a)).set! (2 + l.length * 2 + 1) (.int .i64 b) = ndP s m (l ++ [(a, b)]) := by
  match l, h with
  | [], _ => simp [ndP, nodeC]
  | [_], _ => simp [ndP, nodeC]
  | [_, _], _ => simp [ndP, nodeC]
  | [_, _, _], _ => simp [ndP, nodeC]
  | [_, _, _, _], _ => simp [ndP, nodeC]
  | [_, _, _, _, _], _ => simp [ndP, nodeC]
  | [_, _, _, _, _, _], _ => simp [ndP, nodeC]
  | [_, _, _, _, _, _, _], _ => simp [ndP, nodeC]

/-- what put leaves -/
def SPost (m : Nat) (v : V) (st : St) (rb nb : Option Nat) (w : World) (e : Ending) (w' : World) : Prop :=
  e = .returned (.tuple #[.int .i64 (putV v st).1, .int .i64 (putV v st).2.1]) ∧ ∃ rb' nb', Stor w' m (putV v st).2.2 rb' nb' ∧ Later w.heap.size rb rb' ∧ Later w.heap.size nb nb' ∧ Sy.Fr (SFoot m rb nb) w w'
theorem Stor.rows {w : World} {m : Nat} {st : St} {rb nb : Option Nat} (h : Stor w m st rb nb) : (∀ k, rb = some k → m + 2 ≤ k ∧ k < w.heap.size) ∧ (∀ k, nb = some k → m + 4 ≤ k ∧ k < w.heap.size) ∧ m + 3 < w.heap.size := by
  obtain ⟨sv, nv, D, D', n, n', h⟩ := h
  refine ⟨fun k hk => ?_, fun k hk => ?_, heap_lt h.cells⟩
  · exact h.syms.row.lt k (by rw [h.syms.blk]; exact hk)
  · exact h.row.lt k (by rw [h.blk]; exact hk)
theorem Stor.below {B m : Nat} {w w' : World} {st : St} {rb nb : Option Nat} (h : Stor w m st rb nb) (hf : Sy.Fr (SFoot m rb nb) w w') (hB : B ≤ m) : Below B w w' := by
  have hr := h.rows
  refine hf.below (by omega) (fun k hk => ?_)
  rcases hk with h1 | h1 | h1 | h1 | h1 | h1
  · omega
  · omega
  · omega
  · omega
  · have := hr.1 k h1; omega
  · have := hr.2.1 k h1; omega
/-- a block that is new stays beside the store's -/
theorem Stor.apart {m : Nat} {w : World} {st : St} {rb nb : Option Nat} (h : Stor w m st rb nb) {k : Nat} (hk : w.heap.size ≤ k) : ¬ SFoot m rb nb k := by
  have hr := h.rows
  intro hf
  rcases hf with h1 | h1 | h1 | h1 | h1 | h1
  · omega
  · omega
  · omega
  · omega
  · have := hr.1 k h1; omega
  · have := hr.2.1 k h1; omega
end Go.Proofs.YtnddcicadmbmkaaGreatDoor
