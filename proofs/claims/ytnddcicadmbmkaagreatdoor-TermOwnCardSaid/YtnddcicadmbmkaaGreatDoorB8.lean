/- strings.NewReplacer(..).Replace(s), the eight texts that Text hands over. -/
import Derived.Test.YtnddcicadmbmkaaGreatDoorB7
import Derived.Test.YtnddcicadmbmkaaGreatDoorW1
namespace Go.Proofs.YtnddcicadmbmkaaGreatDoor
open Go.RowKit

/-- what the Replacer holds behind buildOnce -/
def Done (B b : Nat) (w w' : World) : Prop := ∃ r, RIn w.heap.size w' r escE escT ∧ w'.heap[b]? = some (.cells #[.int .u32 0, .int .i32 1, .int .u32 0, .iface 139 (.pointer (some ⟨r, 0, none⟩)), .slice none 0 0] 116 (0, 0)) ∧ Below B w w'

set_option maxRecDepth 100000 in
set_option maxHeartbeats 2000000 in
theorem buildOnce_any (B b g cap : Nat) (w : World) (hb : w.heap[b]? = some (.cells #[.int .u32 0, .int .i32 1, .int .u32 0, .nilIface, .slice (some ⟨g, 0, none⟩) 8 cap] 116 (0, 0))) (hg : Olds w g) (hcap : 8 ≤ cap) (hB : B ≤ b) :
    Calls Tryz.prog 68 #[.pointer (some ⟨b, 0, none⟩)] w fun e w' => e = .returned (.tuple #[]) ∧ Done B b w w' := by
  have hlt := heap_lt hb
  have hgl : g < w.heap.size := World.block_lt_of_cell? w _ hg.1
  have hc := build_any b g cap w (by rw [cell_of hb]; rfl) hg hcap hgl
  have HB := Lib.hid hb
  have HC := Lib.hid hc
  clear hc hb hg
  go_enter Tryz.func68, Tryz.ntmps68
  go_wp2_with fail
  refine HC.out.mono ?_
  rintro e w1 ⟨r, rfl, hr, hb1⟩
  have hbk := (hb1.block b hlt).trans HB.out
  have hc3 := cell_of (j := 3) hbk
  have hf3 := free_of (j := 3) hbk
  have hbk2 := set_block (j := 3) (v := .iface 139 (.pointer (some ⟨r, 0, none⟩))) hbk
  have hc4 := cell_of (j := 4) hbk2
  have hf4 := free_of (j := 4) hbk2
  have hbk3 := set_block (j := 4) (v := .slice none 0 0) hbk2
  simp at hc3 hc4
  have HR := Lib.hid hr
  have HB1 := Lib.hid hb1
  have HB3 := Lib.hid hbk3
  clear hr hb1 hbk hbk2 hbk3 HC
  go_wp2_with fail
  go_end0
  refine ⟨rfl, r, ?_, HB3.out, ?_⟩
  · refine HR.out.keep (fun k hk hk2 => ?_)
    rw [Below.heap_setCell _ _ _ _ (by show k ≠ b; omega), Below.heap_setCell _ _ _ _ (by show k ≠ b; omega)]
  · exact ((HB1.out.mono (by omega)).setCell (p := ⟨b, 3, none⟩) hB _).setCell (p := ⟨b, 4, none⟩) hB _
set_option maxRecDepth 100000 in
set_option maxHeartbeats 2000000 in
theorem replace_any (B b g cap : Nat) (s : ByteArray) (w : World) (hb : w.heap[b]? = some (.cells #[.int .u32 0, .int .i32 0, .int .u32 0, .nilIface, .slice (some ⟨g, 0, none⟩) 8 cap] 116 (0, 0))) (hg : Olds w g) (hcap : 8 ≤ cap) (hB : B ≤ b) (hs : s.size ≤ 140737488351232) :
    Calls Tryz.prog 51 #[.pointer (some ⟨b, 0, none⟩), .string s] w fun e w' => e = .returned (.string ⟨(escL s.data.toList).toArray⟩) ∧ Below B w w' := by
  have hlt := heap_lt hb
  have hgl : g < w.heap.size := World.block_lt_of_cell? w _ hg.1
  have hbk := set_block (j := 1) (v := .int .i32 1) hb
  have hgb : g ≠ b := by
    rintro rfl
    have := hg.1
    rw [cell_of hb] at this
    cases this
  have hg1 : Olds (w.setCell ⟨b, 1, none⟩ (.int .i32 1)) g := by
    have hk : ∀ j, (w.setCell ⟨b, 1, none⟩ (.int .i32 1)).cell? ⟨g, j, none⟩ = w.cell? ⟨g, j, none⟩ := fun j => World.cell?_setCell_other _ _ _ _ (by simp)
    unfold Olds at hg ⊢
    simp only [hk]
    exact hg
  have hob := buildOnce_any B b g cap _ hbk hg1 hcap hB
  have hd := do_first b (.pointer (some ⟨b, 0, none⟩)) w (Done B b (w.setCell ⟨b, 1, none⟩ (.int .i32 1))) (by rw [cell_of hb]; rfl) (by rw [cell_of hb]; rfl) (free_of hb) (free_of hb) hob (by
    rintro w' ⟨r, _, h2, _⟩
    exact ⟨by rw [cell_of h2]; rfl, by rw [cell_of h2]; rfl, free_of h2, free_of h2⟩)
  have HD := Lib.hid hd
  have hz0 : (w.setCell ⟨b, 1, none⟩ (.int .i32 1)).heap.size = w.heap.size := by simp [World.setCell]
  have hmf : ∀ (fn : Fn) (first cap : Array Value) (w : World), (Instr.makeFunc fn first cap).run Tryz.prog w = .ok (.func fn first cap) w := fun _ _ _ _ => rfl
  clear hb hg hbk hg1 hob hd hgb
  go_enter Tryz.func51, Tryz.ntmps51
  go_wp2_with fail
  refine HD.out.mono ?_
  rintro e w1 ⟨rfl, w2, ⟨r, hr, h2, hb2⟩, rfl⟩
  obtain ⟨w3, hw3⟩ : ∃ w3, w3 = (w2.drew.setCell ⟨b, 0, none⟩ (.int .u32 1)).setCell ⟨b, 1, none⟩ (.int .i32 0) := ⟨_, rfl⟩
  have h3 : w3.heap[b]? = some (.cells #[.int .u32 1, .int .i32 0, .int .u32 0, .iface 139 (.pointer (some ⟨r, 0, none⟩)), .slice none 0 0] 116 (0, 0)) := by
    rw [hw3, set_block (set_block (w := w2.drew) h2)]; rfl
  have hr3 : RIn w.heap.size w3 r escE escT := by
    rw [hz0] at hr
    refine hr.keep (fun k hk hk2 => ?_)
    rw [hw3, Below.heap_setCell _ _ _ _ (by show k ≠ b; omega), Below.heap_setCell _ _ _ _ (by show k ≠ b; omega)]
    rfl
  have hb3 : Below B w w3 := by
    rw [hw3]
    exact (((((Below.refl B w).setCell (p := ⟨b, 1, none⟩) hB _).trans hb2).drew).setCell (p := ⟨b, 0, none⟩) hB _).setCell (p := ⟨b, 1, none⟩) hB _
  rw [← hw3]
  have hc3 : w3.cell? ⟨b, 3, none⟩ = some (.iface 139 (.pointer (some ⟨r, 0, none⟩))) := by rw [cell_of h3]; rfl
  have HB3 := Lib.hid hb3
  have HR := Lib.hid (repl_any _ r s w3 hr3 hs)
  have hz3 := hb3.size
  clear hr hr3 h2 hb2 hb3 hw3 h3 HD
  go_wp2_with fail
  refine HR.out.mono ?_
  rintro e w4 ⟨rfl, hb4⟩
  have HB4 := Lib.hid hb4
  clear hb4
  go_wp2_with fail
  go_ret
  exact ⟨rfl, HB3.out.trans (HB4.out.mono (by omega))⟩
end Go.Proofs.YtnddcicadmbmkaaGreatDoor
