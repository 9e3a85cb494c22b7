/- Values of layer 3 as plain trees: what may be, the order, the parts: no program, no memory. -/
import Derived.Test.YtnddcicadmbmkaaGreatDoorRows
import Derived.WalkKit
namespace Go.Proofs.YtnddcicadmbmkaaGreatDoor

/-- a value: kind, number, text, parts -/
inductive V where
  | mk (k n : Int) (s : ByteArray) (ps : List V)

def V.k : V → Int | .mk k _ _ _ => k
def V.n : V → Int | .mk _ n _ _ => n
def V.s : V → ByteArray | .mk _ _ s _ => s
def V.ps : V → List V | .mk _ _ _ ps => ps

mutual
def leftV : V → Int → Int
  | .mk _ _ _ ps, n => leftVs ps (n - 1)
def leftVs : List V → Int → Int
  | [], n => n
  | x :: r, n => if 0 ≤ n then leftVs r (leftV x n) else n
end

def letterN (n : Nat) : Bool := decide (n = 95 ∨ (97 ≤ n ∧ n ≤ 122) ∨ (65 ≤ n ∧ n ≤ 90))
def digitN (n : Nat) : Bool := decide (48 ≤ n ∧ n ≤ 57)
def byteN (s : ByteArray) (i : Nat) : Nat := (s.data.toList.getD i 0).toNat
def goodAt (s : ByteArray) (i : Nat) : Bool := letterN (byteN s i) || (decide (i ≠ 0) && digitN (byteN s i))
def wordB (s : ByteArray) : Bool := decide (1 ≤ s.size) && decide (s.size ≤ 64) && (List.range s.size).all (goodAt s)
theorem byteN_eq {s : ByteArray} {i : Nat} (h : i < s.size) : s[i].toNat = byteN s i := by
  unfold byteN
  have h' : i < s.data.toList.length := by simpa using h
  rw [List.getD, List.getElem?_eq_getElem h']
  rfl
theorem byteN_lt (s : ByteArray) (i : Nat) : byteN s i < 256 := UInt8.toNat_lt _
theorem all_range {f : Nat → Bool} {n : Nat} : (List.range n).all f = true ↔ ∀ i, i < n → f i = true := by simp
theorem wordB_bad {s : ByteArray} {i : Nat} (hi : i < s.size) (h : goodAt s i = false) : wordB s = false := by
  unfold wordB
  have : (List.range s.size).all (goodAt s) = false := by
    rw [Bool.eq_false_iff]
    intro h2
    rw [all_range.1 h2 i hi] at h
    cases h
  rw [this]; simp
theorem wordB_good {s : ByteArray} (h : ∀ i, i < s.size → goodAt s i = true) : wordB s = (decide (1 ≤ s.size) && decide (s.size ≤ 64)) := by
  unfold wordB
  rw [all_range.2 h]; simp

mutual
def mayV : V → Int → Bool
  | .mk k n s ps, d =>
    if k = 1 then decide (s = ⟨#[]⟩) && decide (ps.length = 0)
    else if k = 2 then decide (n = 0) && decide (ps.length = 0) && decide (s.size ≤ 65536)
    else if k = 3 then decide (n = 0) && wordB s && decide (ps.length ≤ 8) && decide (d < 32) && mayVs ps (d + 1)
    else false
def mayVs : List V → Int → Bool
  | [], _ => true
  | x :: r, d => mayV x d && mayVs r d
end

def rightV (v : V) : Bool := decide (0 ≤ leftV v 1024) && mayV v 0

def cmpI (a b : Int) : Int := if a < b then -1 else if b < a then 1 else 0
def cmpS (a b : ByteArray) : Int := if a.data.toList < b.data.toList then -1 else if b.data.toList < a.data.toList then 1 else 0

mutual
def standV : V → V → Int
  | .mk k n s ps, .mk k' n' s' ps' =>
    if k ≠ k' then cmpI k k'
    else if k = 1 then cmpI n n'
    else if k = 2 then cmpS s s'
    else if k ≠ 3 then 0
    else if s ≠ s' then cmpS s s'
    else if ps.length ≠ ps'.length then cmpI ps.length ps'.length
    else standVs ps ps'
def standVs : List V → List V → Int
  | [], _ => 0
  | _ :: _, [] => 0
  | x :: r, y :: q => if standV x y ≠ 0 then standV x y else standVs r q
end

def orderV (a b : V) : Int :=
  if rightV a then (if rightV b then standV a b else 1) else (if rightV b then -1 else 0)

end Go.Proofs.YtnddcicadmbmkaaGreatDoor
