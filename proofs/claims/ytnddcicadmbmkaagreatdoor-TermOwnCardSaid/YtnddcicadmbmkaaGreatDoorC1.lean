/- The text of a value: plain part. -/
import Derived.Test.YtnddcicadmbmkaaGreatDoorB9
import Derived.Test.YtnddcicadmbmkaaGreatDoorB2
import Derived.Lib.ItoaNum
import Derived.Lib.AppendIntMem
import Derived.WalkSmall
namespace Go.Proofs.YtnddcicadmbmkaaGreatDoor
open Go.RowKit

mutual
def textV : V → List UInt8
  | .mk k n s ps =>
    if k = 1 then Lib.itoa n
    else if k = 2 then 34 :: (escL s.data.toList ++ [34])
    else if k = 3 then 36 :: (s.data.toList ++ (40 :: (textVs ps 0 ++ [41])))
    else []
/-- the parts from number i on, each but the first behind a comma -/
def textVs : List V → Nat → List UInt8
  | [], _ => []
  | x :: r, i => (if i = 0 then [] else [44, 32]) ++ (textV x ++ textVs r (i + 1))
end
theorem textV_num (v : V) (h : v.k = 1) : textV v = Lib.itoa v.n := by cases v; simp only [V.k] at h; unfold textV; rw [if_pos h]; rfl
theorem textV_sym (v : V) (h : v.k = 2) : textV v = 34 :: (escL v.s.data.toList ++ [34]) := by cases v; simp only [V.k] at h; unfold textV; rw [if_neg (by omega), if_pos h]; rfl
theorem textV_con (v : V) (h : v.k = 3) : textV v = 36 :: (v.s.data.toList ++ (40 :: (textVs v.ps 0 ++ [41]))) := by cases v; simp only [V.k] at h; unfold textV; rw [if_neg (by omega), if_neg (by omega), if_pos h]; rfl
theorem textV_odd (v : V) (h1 : v.k ≠ 1) (h2 : v.k ≠ 2) (h3 : v.k ≠ 3) : textV v = [] := by cases v; simp only [V.k] at h1 h2 h3; unfold textV; rw [if_neg h1, if_neg h2, if_neg h3]
theorem textVs_drop {l : List V} {k : Nat} (h : k < l.length) : textVs (l.drop k) k = (if k = 0 then [] else [44, 32]) ++ (textV (nthV l k) ++ textVs (l.drop (k + 1)) (k + 1)) := by
  rw [drop_nth h, textVs]
theorem textVs_end {l : List V} {k : Nat} (h : ¬ k < l.length) : textVs (l.drop k) k = [] := by
  rw [List.drop_eq_nil_of_le (by omega), textVs]
theorem strCells_byte (s : ByteArray) : Lib.strCells s = Lib.byteCells s.data.toList := rfl
theorem byteCells_append (a b : List UInt8) : Lib.byteCells a ++ Lib.byteCells b = Lib.byteCells (a ++ b) := by unfold Lib.byteCells; rw [List.map_append]
end Go.Proofs.YtnddcicadmbmkaaGreatDoor
