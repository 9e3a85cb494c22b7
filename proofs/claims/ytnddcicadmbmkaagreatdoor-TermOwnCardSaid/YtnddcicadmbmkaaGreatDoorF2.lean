/- What the rows' condition on the tables gives; a world that meets it. -/
import Derived.Test.YtnddcicadmbmkaaGreatDoorF1
import Derived.Test.YtnddcicadmbmkaaGreatDoorC2
import Derived.Test.YtnddcicadmbmkaaGreatDoorRows
import Derived.LaidLaws
import Derived.LaidSub
import Derived.Lay
import Derived.Lib.LaidTab
import Derived.ProofKit
namespace Go.Proofs.YtnddcicadmbmkaaGreatDoor
open Go.RowKit

def laidAll : List (String × DataW Unit) := [("math/bits.deBruijn32tab", Rows.laid_math_bits_deBruijn32tab), ("math/bits.deBruijn64tab", Rows.laid_math_bits_deBruijn64tab), ("internal/strconv.uint64pow10", Rows.laid_internal_strconv_uint64pow10)]
theorem own : ownKnob Tryz.prog.godebug = none := by kernel_rfl
theorem laidOut : laidOutB Tryz.prog = true := by kernel_rfl
theorem noHandle (w : World) (h : laidMet Tryz.prog laidAll w) : laidMetH Tryz.prog laidAll w := by
  have e : (laidAll.filter fun x => x.2.handleName?.isSome) = [] := by kernel_rfl
  unfold laidMetH
  rw [e]
  exact h
theorem handle_no (w : World) (h : laidMetH Tryz.prog laidAll w) : laidMet Tryz.prog laidAll w := by
  have e : (laidAll.filter fun x => x.2.handleName?.isSome) = [] := by kernel_rfl
  unfold laidMetH at h
  rw [e] at h
  exact h
theorem laid_met (os : Os) (args : Array Value) : laidMetH Tryz.prog laidAll ((World.laidAll Tryz.prog os laidAll).forCall (fun _ _ => 0) ⟨#[], args, []⟩).memory :=
  noHandle _ (laidMet_laidAll args (by kernel_rfl) (by kernel_rfl))
theorem pow_datum : (Rows.laid_internal_strconv_uint64pow10 : DataW Unit) = Lib.tabData .u64 Lib.pow10Tab := by kernel_rfl
theorem filt : (laidAll.filter fun x => x.1 == "internal/strconv.uint64pow10") = [("internal/strconv.uint64pow10", Rows.laid_internal_strconv_uint64pow10)] := by kernel_rfl
theorem gPow : Tryz.prog.globalNamed "internal/strconv.uint64pow10" = some 1 := by kernel_rfl
theorem gPowType : (Tryz.prog.globals[1]?).map (·.type) = some 162 := by kernel_rfl
theorem u141 : Tryz.prog.underlying 141 = some (.int .u64) := by kernel_rfl
theorem c141 : Tryz.prog.cellsOf 141 = 1 := by kernel_rfl
theorem c162 : Tryz.prog.cellsOf 162 = 20 := by kernel_rfl
theorem tab_of_laid {W : World} (h : laidMetH Tryz.prog laidAll W) : Tab W := by
  have h1 := (handle_no W h).filter (fun x => x.1 == "internal/strconv.uint64pow10")
  rw [filt, pow_datum] at h1
  exact Lib.tabIs_of_head gPow gPowType Tryz.underlying162 u141 c141 c162 h1
theorem tab_later {W W' : World} (h : Tab W) (hb : Below W.heap.size W W') : Tab W' := by
  unfold Tab Lib.TabIs World.var? at h ⊢
  rw [gPow] at h ⊢
  simp only [Option.bind_some] at h ⊢
  have hlt : 1 < W.heap.size := by
    rcases Nat.lt_or_ge 1 W.heap.size with hlt | hge
    · exact hlt
    · rw [Array.getElem?_eq_none hge] at h; cases h
  rw [hb.block 1 hlt]
  exact h
/-- a value handed in -/
theorem open_value {H : Type} {enc : TypeId × Value → H} {W : World} {x : Value} {d : DataW H} {ps : List MemPlace} (h : DataW.Trod enc Tryz.prog W 0 (fun _ => true) true 24 x d ps) (hw : (d.weights Tryz.prog 24).all (· ≤ 140737488351232) = true) :
    ∃ v : V, v.Ok ∧ IsV W.heap.size W v x := by
  obtain ⟨f, hf⟩ := h
  obtain ⟨v, hok, sl, hcs, hsub⟩ := open_val f hf hw
  have hx : x = .agg #[.int .i64 v.k, .int .i64 v.n, .string v.s, sl] := by
    cases x <;> simp [Value.cells] at hcs
    case agg cs => congr 1; apply Array.toList_inj.1; rw [hcs]
  exact ⟨v, hok, IsV.of_p ⟨sl, hx, hsub⟩ (fun _ h => h)⟩
end Go.Proofs.YtnddcicadmbmkaaGreatDoor
