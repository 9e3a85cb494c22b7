/-
  No cell of these rows narrows 'for every input' (looked for: loops, veiled, ifaces, maps, wideKeys, modest, calm, conditions, laid).
  DERIVED. THE GIVEN ROWS OF THIS SEAT. 6 by the template 'for every input the law returns true; each argument reads behind the call as it read before'; 0 by the template 'total and deterministic' (their statements: YtpeacdghphnmbaaTotals.lean).
  GIVEN WITH THE SEED: the statements are not yours to turn. If you find one false, say at which input.
  Laid BY PROGRAM, IN A SANDBOX (cutbox-rows.mjs): the forced cells as the released guide's own fill.sh prints them over the translation 3c2f6070f02548e7… (all of the seat's roots in one cut). By AI agents, Wed Nov 11 2026. No macro, syntax, notation, axiom, sorry.
-/
import Derived.Test.YtpeacdghphnmbaaChecked
import GoSem.Claim
import GoSem.ClaimJoined
import GoSem.ClaimMapViews
import Derived.JoinedTies
import Derived.KernelRfl
namespace Go.Proofs.Ytpeacdghphnmbaa
/- THE CELL 'sum', in the pinned program and in every row, IS THE sha256 OF THE DUMP (.gsa) THAT YtpeacdghphnmbaaProg.lean LOADS. Nothing in Lean hashes anything: it is a label: what it is worth is what the hold of that sum in a sandbox is worth. -/
noncomputable def Try.pinned : Pinned := { name := "ytpeacdghphnmbaa", sum := "3c2f6070f02548e74bf09951b8d3d8e38d63fbcca8c3fd4d6882e9848903bbdf", checked := Try.checked }
namespace Rows
def none {H : Type} : Left H := { results := [], args := [] }

/-- 'vestrylaw02.SymLess': WHATEVER THE INPUT: true; the input reads as it did. -/
def symLessSpec : ChangeSpec := { name := "symLess", fn := fun _ => fun
  | [d1, d2, d3] => { results := [.lit (.bool true)], args := [d1, d2, d3] }
  | _ => none }
def symLessRow : OpenClaim := { program := "ytpeacdghphnmbaa", sum := "3c2f6070f02548e74bf09951b8d3d8e38d63fbcca8c3fd4d6882e9848903bbdf", func := "vestry/vestrylaw02.SymLess", spec := "symLess", apart := false }
def SymLessSaid : Prop := symLessRow.holds Try.pinned (OpenSpec.ofChange symLessSpec)

/-- ITS FALSE NEIGHBOUR: 'it returns false'. Refute it at one input. -/
def symLessWrong : ChangeSpec := { name := "symLess", fn := fun _ => fun
  | [d1, d2, d3] => { results := [.lit (.bool false)], args := [d1, d2, d3] }
  | _ => none }
def SymLessWrongFalsely : Prop := symLessRow.holds Try.pinned (OpenSpec.ofChange symLessWrong)

/-- 'vestrylaw02.SymKeeps': WHATEVER THE INPUT: true; the input reads as it did. -/
def symKeepsSpec : ChangeSpec := { name := "symKeeps", fn := fun _ => fun
  | [d] => { results := [.lit (.bool true)], args := [d] }
  | _ => none }
def symKeepsRow : OpenClaim := { program := "ytpeacdghphnmbaa", sum := "3c2f6070f02548e74bf09951b8d3d8e38d63fbcca8c3fd4d6882e9848903bbdf", func := "vestry/vestrylaw02.SymKeeps", spec := "symKeeps", apart := false }
def SymKeepsSaid : Prop := symKeepsRow.holds Try.pinned (OpenSpec.ofChange symKeepsSpec)

/-- ITS FALSE NEIGHBOUR: 'it returns false'. Refute it at one input. -/
def symKeepsWrong : ChangeSpec := { name := "symKeeps", fn := fun _ => fun
  | [d] => { results := [.lit (.bool false)], args := [d] }
  | _ => none }
def SymKeepsWrongFalsely : Prop := symKeepsRow.holds Try.pinned (OpenSpec.ofChange symKeepsWrong)

/-- 'vestrylaw02.SymFull': WHATEVER THE INPUT: true; the input reads as it did. -/
def symFullSpec : ChangeSpec := { name := "symFull", fn := fun _ => fun
  | [d] => { results := [.lit (.bool true)], args := [d] }
  | _ => none }
def symFullRow : OpenClaim := { program := "ytpeacdghphnmbaa", sum := "3c2f6070f02548e74bf09951b8d3d8e38d63fbcca8c3fd4d6882e9848903bbdf", func := "vestry/vestrylaw02.SymFull", spec := "symFull", apart := false }
def SymFullSaid : Prop := symFullRow.holds Try.pinned (OpenSpec.ofChange symFullSpec)

/-- ITS FALSE NEIGHBOUR: 'it returns false'. Refute it at one input. -/
def symFullWrong : ChangeSpec := { name := "symFull", fn := fun _ => fun
  | [d] => { results := [.lit (.bool false)], args := [d] }
  | _ => none }
def SymFullWrongFalsely : Prop := symFullRow.holds Try.pinned (OpenSpec.ofChange symFullWrong)

/-- 'vestrylaw02.SymWalks': WHATEVER THE INPUT: true; the input reads as it did. -/
def symWalksSpec : ChangeSpec := { name := "symWalks", fn := fun _ => fun
  | [d1, d2] => { results := [.lit (.bool true)], args := [d1, d2] }
  | _ => none }
def symWalksRow : OpenClaim := { program := "ytpeacdghphnmbaa", sum := "3c2f6070f02548e74bf09951b8d3d8e38d63fbcca8c3fd4d6882e9848903bbdf", func := "vestry/vestrylaw02.SymWalks", spec := "symWalks", unfollowed := true, recurses := true, apart := false }
def SymWalksSaid : Prop := symWalksRow.holds Try.pinned (OpenSpec.ofChange symWalksSpec)

/-- ITS FALSE NEIGHBOUR: 'it returns false'. Refute it at one input. -/
def symWalksWrong : ChangeSpec := { name := "symWalks", fn := fun _ => fun
  | [d1, d2] => { results := [.lit (.bool false)], args := [d1, d2] }
  | _ => none }
def SymWalksWrongFalsely : Prop := symWalksRow.holds Try.pinned (OpenSpec.ofChange symWalksWrong)

/-- 'vestrylaw02.SymPlays': WHATEVER THE INPUT: true; the input reads as it did. -/
def symPlaysSpec : ChangeSpec := { name := "symPlays", fn := fun _ => fun
  | [d1, d2] => { results := [.lit (.bool true)], args := [d1, d2] }
  | _ => none }
def symPlaysRow : OpenClaim := { program := "ytpeacdghphnmbaa", sum := "3c2f6070f02548e74bf09951b8d3d8e38d63fbcca8c3fd4d6882e9848903bbdf", func := "vestry/vestrylaw02.SymPlays", spec := "symPlays", unfollowed := true, recurses := true, apart := false }
def SymPlaysSaid : Prop := symPlaysRow.holds Try.pinned (OpenSpec.ofChange symPlaysSpec)

/-- ITS FALSE NEIGHBOUR: 'it returns false'. Refute it at one input. -/
def symPlaysWrong : ChangeSpec := { name := "symPlays", fn := fun _ => fun
  | [d1, d2] => { results := [.lit (.bool false)], args := [d1, d2] }
  | _ => none }
def SymPlaysWrongFalsely : Prop := symPlaysRow.holds Try.pinned (OpenSpec.ofChange symPlaysWrong)

/-- 'vestrylaw02.SymNobody': WHATEVER THE INPUT: true; the input reads as it did. -/
def symNobodySpec : ChangeSpec := { name := "symNobody", fn := fun _ => fun
  | [d1, d2, d3] => { results := [.lit (.bool true)], args := [d1, d2, d3] }
  | _ => none }
def symNobodyRow : OpenClaim := { program := "ytpeacdghphnmbaa", sum := "3c2f6070f02548e74bf09951b8d3d8e38d63fbcca8c3fd4d6882e9848903bbdf", func := "vestry/vestrylaw02.SymNobody", spec := "symNobody", unfollowed := true, recurses := true, apart := false }
def SymNobodySaid : Prop := symNobodyRow.holds Try.pinned (OpenSpec.ofChange symNobodySpec)

/-- ITS FALSE NEIGHBOUR: 'it returns false'. Refute it at one input. -/
def symNobodyWrong : ChangeSpec := { name := "symNobody", fn := fun _ => fun
  | [d1, d2, d3] => { results := [.lit (.bool false)], args := [d1, d2, d3] }
  | _ => none }
def SymNobodyWrongFalsely : Prop := symNobodyRow.holds Try.pinned (OpenSpec.ofChange symNobodyWrong)

/- THE SECOND FORM. 'bulk': how many values and letters a reading holds, each counted each time it is reached (what is shared counts as often as it is met; a slice's spare places count too). A statement '..UptoSaid' is the law's where the arguments, and the package variables that the reading takes, are together of bulk at most 1048576: NARROWER than '..Said'. Prove '..Said' where nothing that the law and all that it calls make is longer than what came in: it says more and counts as full. Else prove '..UptoSaid'. A law counts once. -/
mutual
def uptoBulk {H : Type} : DataW H → Nat
  | .lit (.string bytes) => bytes.length + 1
  | .lit _ => 1
  | .nil => 1
  | .ptr d => uptoBulk d + 1
  | .slice elems spare => uptoBulkAll elems + uptoBulkAll spare + 1
  | .agg parts => uptoBulkAll parts + 1
  | .iface _ d => uptoBulk d + 1
  | .map entries => uptoBulkEntries entries + 1
  | .held _ => 1
def uptoBulkAll {H : Type} : List (DataW H) → Nat
  | [] => 0
  | d :: r => uptoBulk d + uptoBulkAll r
def uptoBulkEntries {H : Type} : List (Lit × DataW H) → Nat
  | [] => 0
  | x :: r => uptoBulkEntry x + uptoBulkEntries r
def uptoBulkEntry {H : Type} : Lit × DataW H → Nat
  | (.string bytes, d) => bytes.length + uptoBulk d + 1
  | (_, d) => uptoBulk d + 1
 end
def uptoSmall : (H : Type) → List (DataW H) → Bool := fun _ ds => decide (uptoBulkAll ds ≤ 1048576)
def OpenSpec.upto (s : _root_.Go.ChangeSpec) : _root_.Go.OpenSpec := { _root_.Go.OpenSpec.ofChange s with cond := some uptoSmall }

/-- 'vestrylaw02.SymLess', WHERE WHAT IT READS IS OF BULK AT MOST 1048576: true; the input reads as it did. -/
def symLessUptoRow : OpenClaim := { program := "ytpeacdghphnmbaa", sum := "3c2f6070f02548e74bf09951b8d3d8e38d63fbcca8c3fd4d6882e9848903bbdf", func := "vestry/vestrylaw02.SymLess", spec := "symLess", apart := false, narrowed := true }
def SymLessUptoSaid : Prop := symLessUptoRow.holds Try.pinned (OpenSpec.upto symLessSpec)

/-- 'vestrylaw02.SymKeeps', WHERE WHAT IT READS IS OF BULK AT MOST 1048576: true; the input reads as it did. -/
def symKeepsUptoRow : OpenClaim := { program := "ytpeacdghphnmbaa", sum := "3c2f6070f02548e74bf09951b8d3d8e38d63fbcca8c3fd4d6882e9848903bbdf", func := "vestry/vestrylaw02.SymKeeps", spec := "symKeeps", apart := false, narrowed := true }
def SymKeepsUptoSaid : Prop := symKeepsUptoRow.holds Try.pinned (OpenSpec.upto symKeepsSpec)

/-- 'vestrylaw02.SymFull', WHERE WHAT IT READS IS OF BULK AT MOST 1048576: true; the input reads as it did. -/
def symFullUptoRow : OpenClaim := { program := "ytpeacdghphnmbaa", sum := "3c2f6070f02548e74bf09951b8d3d8e38d63fbcca8c3fd4d6882e9848903bbdf", func := "vestry/vestrylaw02.SymFull", spec := "symFull", apart := false, narrowed := true }
def SymFullUptoSaid : Prop := symFullUptoRow.holds Try.pinned (OpenSpec.upto symFullSpec)

/-- 'vestrylaw02.SymWalks', WHERE WHAT IT READS IS OF BULK AT MOST 1048576: true; the input reads as it did. -/
def symWalksUptoRow : OpenClaim := { program := "ytpeacdghphnmbaa", sum := "3c2f6070f02548e74bf09951b8d3d8e38d63fbcca8c3fd4d6882e9848903bbdf", func := "vestry/vestrylaw02.SymWalks", spec := "symWalks", unfollowed := true, recurses := true, apart := false, narrowed := true }
def SymWalksUptoSaid : Prop := symWalksUptoRow.holds Try.pinned (OpenSpec.upto symWalksSpec)

/-- 'vestrylaw02.SymPlays', WHERE WHAT IT READS IS OF BULK AT MOST 1048576: true; the input reads as it did. -/
def symPlaysUptoRow : OpenClaim := { program := "ytpeacdghphnmbaa", sum := "3c2f6070f02548e74bf09951b8d3d8e38d63fbcca8c3fd4d6882e9848903bbdf", func := "vestry/vestrylaw02.SymPlays", spec := "symPlays", unfollowed := true, recurses := true, apart := false, narrowed := true }
def SymPlaysUptoSaid : Prop := symPlaysUptoRow.holds Try.pinned (OpenSpec.upto symPlaysSpec)

/-- 'vestrylaw02.SymNobody', WHERE WHAT IT READS IS OF BULK AT MOST 1048576: true; the input reads as it did. -/
def symNobodyUptoRow : OpenClaim := { program := "ytpeacdghphnmbaa", sum := "3c2f6070f02548e74bf09951b8d3d8e38d63fbcca8c3fd4d6882e9848903bbdf", func := "vestry/vestrylaw02.SymNobody", spec := "symNobody", unfollowed := true, recurses := true, apart := false, narrowed := true }
def SymNobodyUptoSaid : Prop := symNobodyUptoRow.holds Try.pinned (OpenSpec.upto symNobodySpec)

end Rows
end Go.Proofs.Ytpeacdghphnmbaa
