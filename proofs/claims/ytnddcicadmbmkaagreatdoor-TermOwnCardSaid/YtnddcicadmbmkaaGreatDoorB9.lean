/- strings.NewReplacer at eight texts; Quoted. -/
import Derived.Test.YtnddcicadmbmkaaGreatDoorB8
namespace Go.Proofs.YtnddcicadmbmkaaGreatDoor
open Go.RowKit

def oldL : List Value := [.string ⟨#[34]⟩, .string ⟨#[92, 34]⟩, .string ⟨#[92]⟩, .string ⟨#[92, 92]⟩, .string ⟨#[10]⟩, .string ⟨#[92, 110]⟩, .string ⟨#[9]⟩, .string ⟨#[92, 116]⟩]
theorem olds_iff (w : World) (g : Nat) : (∀ j u, oldL[j]? = some u → w.cell? ⟨g, j, none⟩ = some u) ↔ Olds w g := by
  constructor
  · intro h
    exact ⟨h 0 _ rfl, h 1 _ rfl, h 2 _ rfl, h 3 _ rfl, h 4 _ rfl, h 5 _ rfl, h 6 _ rfl, h 7 _ rfl⟩
  · rintro ⟨h0, h1, h2, h3, h4, h5, h6, h7⟩ j u hj
    match j, hj with
    | 0, hj => cases hj; exact h0
    | 1, hj => cases hj; exact h1
    | 2, hj => cases hj; exact h2
    | 3, hj => cases hj; exact h3
    | 4, hj => cases hj; exact h4
    | 5, hj => cases hj; exact h5
    | 6, hj => cases hj; exact h6
    | 7, hj => cases hj; exact h7

set_option maxRecDepth 100000 in
set_option maxHeartbeats 2000000 in
theorem newrep_any (g : Nat) (w : World) (hg : Olds w g) :
    Calls Tryz.prog 50 #[.slice (some ⟨g, 0, none⟩) 8 8] w fun e w' => ∃ b g' cap', e = .returned (.pointer (some ⟨b, 0, none⟩)) ∧ w'.heap[b]? = some (.cells #[.int .u32 0, .int .i32 0, .int .u32 0, .nilIface, .slice (some ⟨g', 0, none⟩) 8 cap'] 116 (0, 0)) ∧ Olds w' g' ∧ 8 ≤ cap' ∧ w.heap.size ≤ b ∧ Below w.heap.size w w' := by
  obtain ⟨i9, hi, hz0, hz1, hz2⟩ := info_parts (P := Tryz.prog) (e := 9) (z := .string ⟨#[]⟩) (size := 1) (bytes := 16) (by kernel_rfl)
  have HG := Lib.hid ((olds_iff w g).2 hg)
  have hone : ∀ u ∈ oldL, u.oneCell' = true := by
    intro u hu
    unfold oldL at hu
    simp at hu
    rcases hu with rfl | rfl | rfl | rfl | rfl | rfl | rfl | rfl <;> rfl
  clear hg
  go_enter Tryz.func50, Tryz.ntmps50
  go_wp2_with (at_builtin; refine wpList_append_own _ rfl _ _ 33 rfl w.heap.size 9 i9 (.string ⟨#[]⟩) 1 16 Tryz.underlying33 hi hz0 hz1 hz2 rfl (by decide) (.slice none 0 0) 0 [] rfl (World.ownsRow_nil _ _ _ _) ⟨g, 0, none⟩ 8 8 oldL (by rfl) rfl (fun j u hj => by rw [Addr.add_mid, Nat.zero_add]; exact HG.out j u hj) hone (by unfold maxLen; omega) (by omega) (Nat.le_refl _) ?_)
  intro v w1 hown hgrow hne
  obtain ⟨g', cap', rfl, hcap', hol⟩ : ∃ g' cap', v = .slice (some ⟨g', 0, none⟩) 8 cap' ∧ 8 ≤ cap' ∧ Olds w1 g' := by
    rcases hown.2 with ⟨h, _⟩ | ⟨g', cap', cur, rfl, _, h1, h2, _, h3, h4⟩
    · exact absurd h hne
    · refine ⟨g', cap', rfl, h2, (olds_iff w1 g').1 (fun j u hj => ?_)⟩
      have hj8 : j < 8 := (List.getElem?_eq_some_iff.1 hj).1
      rw [hown.cellAt j hj8]
      exact hj
  have hb1 : Below w.heap.size w w1 := (Below.refl _ _).grown hgrow (Nat.le_refl _) (fun k e => by cases e)
  have hz1' := hb1.size
  have HB1 := Lib.hid hb1
  have HO := Lib.hid hol
  clear hown hgrow hb1 hol hne
  go_wp2_with fail
  go_ret
  refine ⟨w1.heap.size, g', cap', rfl, heap_alloc_new _ _, HO.out.below ((Below.refl _ _).alloc (Nat.le_refl _) _) (World.block_lt_of_cell? w1 _ HO.out.1), hcap', hz1', HB1.out.alloc hz1' _⟩
end Go.Proofs.YtnddcicadmbmkaaGreatDoor
