/- TermNobody's walk. -/
import Derived.Test.YtnddcicadmbmkaaGreatDoorG6
import Derived.Test.YtnddcicadmbmkaaGreatDoorF2
namespace Go.Proofs.YtnddcicadmbmkaaGreatDoor
open Go.RowKit

def NobR (_w W0 : World) (i : Value) (wr : World) : Prop := ∃ j : Nat, j ≤ 2 ∧ i = .int .i64 j ∧ Below W0.heap.size W0 wr
set_option maxRecDepth 100000 in
set_option maxHeartbeats 4000000 in
theorem nobody_walk (v : V) (k n : Int) (x : Value) (w : World) (hx : IsV w.heap.size w v x) (_hk : (Lit.int .i64 k).wf = true) (_hn : (Lit.int .i64 n).wf = true) (hok : v.Ok) (htab : ∀ w', Below w.heap.size w w' → Tab w') :
    Calls Tryz.prog 10 #[x, .int .i64 k, .int .i64 n] w fun e w' => e = .returned (.bool true) ∧ Below w.heap.size w w' := by
  have HTAB := Lib.hid htab
  obtain ⟨a, cap, rfl, hcap, _⟩ := hx.open
  have hlen := ok_len hok
  obtain ⟨W0, hW0⟩ : ∃ W0, W0 = ((w.alloc (.cells #[.int .i64 v.k, .int .i64 v.n, .string v.s, .slice a v.ps.length cap] 24)).alloc (.cells #[.pointer none, .slice none 0 0, .map none] 57)).alloc (.cells #[.pointer none, .pointer (some ⟨w.heap.size + 1, 0, none⟩)] 31) := ⟨_, rfl⟩
  obtain ⟨hz0, hB0, hb0, hb1, hb2⟩ := three_new w (.cells #[.int .i64 v.k, .int .i64 v.n, .string v.s, .slice a v.ps.length cap] 24) (.cells #[.pointer none, .slice none 0 0, .map none] 57) (.cells #[.pointer none, .pointer (some ⟨w.heap.size + 1, 0, none⟩)] 31)
  rw [← hW0] at hz0 hB0 hb0 hb1 hb2
  have HW0 := Lib.hid hW0
  have HB0 := Lib.hid hB0
  have Hb0 := Lib.hid hb0
  have Hb1 := Lib.hid hb1
  have Hb2 := Lib.hid hb2
  have HC := Lib.hid (show ∀ w', Below W0.heap.size W0 w' → (w'.cell? ⟨w.heap.size, 0, none⟩ = some (.int .i64 v.k) ∧ w'.cell? ⟨w.heap.size, 1, none⟩ = some (.int .i64 v.n) ∧ w'.cell? ⟨w.heap.size, 2, none⟩ = some (.string v.s) ∧ w'.cell? ⟨w.heap.size, 3, none⟩ = some (.slice a v.ps.length cap)) ∧ w'.cell? ⟨w.heap.size + 1, 1, none⟩ = some (.slice none 0 0) ∧ w'.cell? ⟨w.heap.size + 1, 2, none⟩ = some (.map none) ∧ w'.cell? ⟨w.heap.size + 1 + 1, 0, none⟩ = some (.pointer none) ∧ w'.cell? ⟨w.heap.size + 1 + 1, 1, none⟩ = some (.pointer (some ⟨w.heap.size + 1, 0, none⟩)) from fun w' h => by
    refine ⟨block4 ((h.block _ (by omega)).trans hb0), ?_, ?_, ?_, ?_⟩
    · rw [cell_of ((h.block _ (by omega)).trans hb1)]; rfl
    · rw [cell_of ((h.block _ (by omega)).trans hb1)]; rfl
    · rw [cell_of ((h.block _ (by omega)).trans hb2)]; rfl
    · rw [cell_of ((h.block _ (by omega)).trans hb2)]; rfl)
  have HTW := Lib.hid (show ∀ w', Below W0.heap.size W0 w' → ∀ w'', Below w'.heap.size w' w'' → Tab w'' from fun w' h w'' h2 => HTAB.out _ (((HB0.out).trans (h.mono (by omega))).trans (h2.mono (by have := h.size; omega))))
  clear hx hok hW0 hB0 hb0 hb1 hb2 htab
  go_enter Tryz.func10, Tryz.ntmps10
  go_wp2_with fail
  rw [← HW0.out]
  go_loopw [19] (fun i wr => NobR w W0 i wr) (fun i _ => 2 - (intOf i).toNat)
  case atStart => exact ⟨0, by omega, rfl, Below.refl _ _⟩
  case round =>
    obtain ⟨j, hj, rfl, hB⟩ := hrel
    have HB := Lib.hid hB
    obtain ⟨⟨c0, c1, c2, c3⟩, z1, z2, q0, q1⟩ := HC.out _ hB
    have hsz := hB.size
    clear hB
    by_cases hlt : j < 2
    · have hj2 : j = 0 ∨ j = 1 := by omega
      rcases hj2 with rfl | rfl
      · go_wp2_with fail
        refine (nput_nil _ _ _ _ wr).mono ?_
        rintro e w1 ⟨rfl, hb1⟩
        have HB1 := Lib.hid (HB.out.trans (hb1.mono hsz))
        clear hb1 c0 c1 c2 c3 z1 z2 q0 q1
        obtain ⟨⟨c0, c1, c2, c3⟩, z1, z2, q0, q1⟩ := HC.out _ HB1.out
        have hs1 := HB1.out.size
        go_wp2_with fail
        refine (nget_nil _ _ _ _ w1).mono ?_
        rintro e w2 ⟨rfl, hb2⟩
        have HB2 := Lib.hid (HB1.out.trans (hb2.mono hs1))
        clear hb2 c0 c1 c2 c3 z1 z2 q0 q1
        obtain ⟨⟨c0, c1, c2, c3⟩, z1, z2, q0, q1⟩ := HC.out _ HB2.out
        have hs2 := HB2.out.size
        go_wp2_with fail
        refine (nback_nil k n w2).mono ?_
        rintro e w3 ⟨rfl, hb3⟩
        have HB3 := Lib.hid (HB2.out.trans (hb3.mono hs2))
        clear hb3 c0 c1 c2 c3 z1 z2 q0 q1
        have hs3 := HB3.out.size
        go_wp2_with fail
        refine (raw_zero _).mono ?_
        rintro e w4 ⟨rfl, hb4⟩
        have HB4 := Lib.hid (HB3.out.trans (((Below.refl w3.heap.size w3).alloc (Nat.le_refl _) (.cells #[.int .i64 0, .int .i64 0, .string ⟨#[]⟩, .slice none 0 0] 24) |>.trans (hb4.mono (by simp))).mono hs3))
        clear hb4
        obtain ⟨⟨c0, c1, c2, c3⟩, z1, z2, q0, q1⟩ := HC.out _ HB4.out
        go_wp2_with fail
        refine (nlen_nil _).mono ?_
        rintro e w5 ⟨rfl, rfl⟩
        clear c0 c1 c2 c3 z1 z2 q0 q1
        go_wp2_with fail
        go_roundw
        case rel => exact ⟨1, by omega, by go_num, HB4.out⟩
        case measure => simp [intOf]
      · go_wp2_with fail
        refine (nput_zero (w.heap.size + 1) _ _ _ _ wr z2).mono ?_
        rintro e w1 ⟨rfl, hb1⟩
        have HB1 := Lib.hid (HB.out.trans (hb1.mono hsz))
        clear hb1 c0 c1 c2 c3 z1 z2 q0 q1
        obtain ⟨⟨c0, c1, c2, c3⟩, z1, z2, q0, q1⟩ := HC.out _ HB1.out
        have hs1 := HB1.out.size
        go_wp2_with fail
        refine (nget_zero (w.heap.size + 1) _ _ _ _ w1 z2).mono ?_
        rintro e w2 ⟨rfl, hb2⟩
        have HB2 := Lib.hid (HB1.out.trans (hb2.mono hs1))
        clear hb2 c0 c1 c2 c3 z1 z2 q0 q1
        obtain ⟨⟨c0, c1, c2, c3⟩, z1, z2, q0, q1⟩ := HC.out _ HB2.out
        have hs2 := HB2.out.size
        go_wp2_with fail
        refine (nback_zero (w.heap.size + 1) k n w2 z2).mono ?_
        rintro e w3 ⟨rfl, hb3⟩
        have HB3 := Lib.hid (HB2.out.trans (hb3.mono hs2))
        clear hb3 c0 c1 c2 c3 z1 z2 q0 q1
        have hs3 := HB3.out.size
        go_wp2_with fail
        refine (raw_zero _).mono ?_
        rintro e w4 ⟨rfl, hb4⟩
        have HB4 := Lib.hid (HB3.out.trans (((Below.refl w3.heap.size w3).alloc (Nat.le_refl _) (.cells #[.int .i64 0, .int .i64 0, .string ⟨#[]⟩, .slice none 0 0] 24) |>.trans (hb4.mono (by simp))).mono hs3))
        clear hb4
        obtain ⟨⟨c0, c1, c2, c3⟩, z1, z2, q0, q1⟩ := HC.out _ HB4.out
        go_wp2_with fail
        refine (nlen_zero (w.heap.size + 1) _ z1).mono ?_
        rintro e w5 ⟨rfl, rfl⟩
        clear c0 c1 c2 c3 z1 z2 q0 q1
        go_wp2_with fail
        go_roundw
        case rel => exact ⟨2, by omega, by go_num, HB4.out⟩
        case measure => simp [intOf]
    · obtain rfl : j = 2 := by omega
      go_wp2_with fail
      refine (alive_any _ (HTW.out _ HB.out)).mono ?_
      rintro e w8 ⟨rfl, hb8⟩
      have HB8 := Lib.hid (HB.out.trans (hb8.mono hsz))
      clear hb8
      go_wp2_with fail
      go_ret
      exact ⟨rfl, HB0.out.trans (HB8.out.mono (by omega))⟩
end Go.Proofs.YtnddcicadmbmkaaGreatDoor
