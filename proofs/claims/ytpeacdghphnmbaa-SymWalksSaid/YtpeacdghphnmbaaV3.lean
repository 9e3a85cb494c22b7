/- The walk of SymWalks, as the row takes it. -/
import Derived.Test.YtpeacdghphnmbaaV2
import Derived.Test.YtpeacdghphnmbaaT7
namespace Go.Proofs.Ytpeacdghphnmbaa
open Go.RowKit
theorem walks_walk (l : List ByteArray) (v : Value) (lv : Int) (w : World) (hv : Strs w v l) (hr : ∀ s ∈ l, s.size ≤ 140737488351232) (_ : (Lit.int .i64 lv).wf = true) :
    Calls Try.prog 6 #[v, .int .i64 lv] w fun e w' => e = .returned (.bool true) ∧ Below w.heap.size w w' := callsIn_wide.1 (walks_in l v lv w hv hr)
end Go.Proofs.Ytpeacdghphnmbaa
