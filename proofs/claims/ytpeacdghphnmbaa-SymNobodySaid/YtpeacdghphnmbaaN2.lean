/- The walk of SymNobody, as the row takes it. -/
import Derived.Test.YtpeacdghphnmbaaN1
namespace Go.Proofs.Ytpeacdghphnmbaa
open Go.RowKit
theorem nobody_walk (s : ByteArray) (a b : Int) (w : World) (hs : s.size ≤ maxLen) (_ : s.size ≤ 140737488351232) (_ : (Lit.int .i64 a).wf = true) (_ : (Lit.int .i64 b).wf = true) :
    Calls Try.prog 8 #[.string s, .int .i64 a, .int .i64 b] w fun e w' => e = .returned (.bool true) ∧ Below w.heap.size w w' := callsIn_wide.1 (nobody_in s a b w hs)
end Go.Proofs.Ytpeacdghphnmbaa
