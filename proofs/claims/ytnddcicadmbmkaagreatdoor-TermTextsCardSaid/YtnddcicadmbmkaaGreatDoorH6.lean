/- The document's Text; TermTexts' walk. -/
import Derived.Test.YtnddcicadmbmkaaGreatDoorH5
import Derived.Test.YtnddcicadmbmkaaGreatDoorG5
namespace Go.Proofs.YtnddcicadmbmkaaGreatDoor
open Go.RowKit

set_option maxRecDepth 100000 in
set_option maxHeartbeats 2000000 in
theorem doctext_any (v : V) (x : Value) (B : Nat) (w : World) (hx : IsV B w v x) (hB : B ≤ w.heap.size) (hok : v.Ok) :
    Calls Tryz.prog 12 #[x] w fun e w' => e = .returned (.string ⟨(textOf v).toArray⟩) ∧ Below B w w' := by
  have HX := Lib.hid hx
  obtain ⟨a, cap, rfl, hcap, _⟩ := hx.open
  have hlen := ok_len hok
  have HOK := Lib.hid hok
  obtain ⟨r, hr⟩ : ∃ r, rightV v = r := ⟨_, rfl⟩
  have heq : Hid (textOf v = if r then textV v else [63]) := Lib.hid (by rw [← hr]; rfl)
  have HR := Lib.hid hr
  have HRR := Lib.hid (fun (w' : World) (h : IsV B w' v (.agg #[.int .i64 v.k, .int .i64 v.n, .string v.s, .slice a v.ps.length cap])) (hB : B ≤ w'.heap.size) => hr ▸ rright_any v _ B w' h hB hok)
  clear hok hx hr
  go_enter Tryz.func12, Tryz.ntmps12
  go_wp2_with fail
  obtain ⟨W0, hW0⟩ : ∃ W0, W0 = w.alloc (.cells #[.int .i64 v.k, .int .i64 v.n, .string v.s, .slice a v.ps.length cap] 24) := ⟨_, rfl⟩
  have hb0 : W0.heap[w.heap.size]? = some (.cells #[.int .i64 v.k, .int .i64 v.n, .string v.s, .slice a v.ps.length cap] 24 (0, 0)) := by rw [hW0]; exact heap_alloc_new _ _
  have hz0 : W0.heap.size = w.heap.size + 1 := by rw [hW0]; simp
  have hB0 : Below w.heap.size w W0 := by rw [hW0]; exact (Below.refl _ _).alloc (Nat.le_refl _) _
  rw [← hW0]
  have HB0 := Lib.hid (hB0.mono hB)
  have Hb0 := Lib.hid hb0
  clear hW0 hB0 hb0
  refine (HRR.out W0 (HX.out.below HB0.out) (by omega)).mono ?_
  rintro e W1 ⟨rfl, hb1⟩
  have hz1 := hb1.size
  obtain ⟨c0, c1, c2, c3⟩ := block4 ((hb1.block w.heap.size (by omega)).trans Hb0.out)
  have HB1 := Lib.hid (HB0.out.trans (hb1.mono (by omega)))
  clear hb1
  cases r with
  | false =>
    have heq2 := Lib.hid (show textOf v = [63] by rw [heq.out]; rfl)
    clear c0 c1 c2 c3
    go_wp2_with fail
    go_ret
    exact ⟨ret_str (by rw [heq2.out]), HB1.out⟩
  | true =>
    have heq2 := Lib.hid (show textOf v = textV v by rw [heq.out]; rfl)
    go_wp2_with fail
    refine (rtext_any (v.sz + 1) v _ B W1 0 (Nat.lt_succ_self _) (HX.out.below HB1.out) (by omega) HOK.out (right_may HR.out) (right_sz HR.out)).mono ?_
    rintro e W2 ⟨rfl, hb2⟩
    have HB2 := Lib.hid (HB1.out.trans (hb2.mono (by omega)))
    clear hb2 c0 c1 c2 c3
    go_wp2_with fail
    go_ret
    exact ⟨ret_str (by rw [heq2.out]), HB2.out⟩

set_option maxRecDepth 100000 in
set_option maxHeartbeats 8000000 in
theorem texts_walk (v : V) (x : Value) (w : World) (hx : IsV w.heap.size w v x) (hok : v.Ok) (htab : ∀ w', Below w.heap.size w w' → Tab w') :
    Calls Tryz.prog 3 #[x] w fun e w' => e = .returned (.bool true) ∧ Below w.heap.size w w' := by
  have HX := Lib.hid hx
  have HO := Lib.hid hok
  have HTAB := Lib.hid htab
  obtain ⟨a, cap, rfl, hcap, _⟩ := hx.open
  have hlen := ok_len hok
  obtain ⟨W0, hW0⟩ : ∃ W0, W0 = w.alloc (.cells #[.int .i64 v.k, .int .i64 v.n, .string v.s, .slice a v.ps.length cap] 24) := ⟨_, rfl⟩
  have hb0 : W0.heap[w.heap.size]? = some (.cells #[.int .i64 v.k, .int .i64 v.n, .string v.s, .slice a v.ps.length cap] 24 (0, 0)) := by rw [hW0]; exact heap_alloc_new _ _
  have hz0 : W0.heap.size = w.heap.size + 1 := by rw [hW0]; simp
  have HB0 : Hid (Below w.heap.size w W0) := Lib.hid (by rw [hW0]; exact (Below.refl _ _).alloc (Nat.le_refl _) _)
  have HW0 := Lib.hid hW0
  have Hb0 := Lib.hid hb0
  have hl0 : w.heap.size < W0.heap.size := by omega
  have HTW := Lib.hid (show ∀ w' , Below W0.heap.size W0 w' → ∀ w'', Below w'.heap.size w' w'' → Tab w'' from fun w' h w'' h2 => HTAB.out _ (((HB0.out).trans (h.mono (by omega))).trans (h2.mono (by have := h.size; omega))))
  have HTX := Lib.hid (show ∀ w' , Below W0.heap.size W0 w' → ∀ w'', Below W0.heap.size w' w'' → Tab w'' from fun w' h w'' h2 => HTAB.out _ (((HB0.out).trans (h.mono (by omega))).trans (h2.mono (by omega))))
  have HK : Hid (∀ w', Below W0.heap.size W0 w' → Below W0.heap.size W0 w' ∧ w'.cell? ⟨w.heap.size, 0, none⟩ = some (.int .i64 v.k) ∧ w'.cell? ⟨w.heap.size, 1, none⟩ = some (.int .i64 v.n) ∧ w'.cell? ⟨w.heap.size, 2, none⟩ = some (.string v.s) ∧ w'.cell? ⟨w.heap.size, 3, none⟩ = some (.slice a v.ps.length cap)) := Lib.hid (fun w' hb => ⟨hb, block4 ((hb.block w.heap.size hl0).trans Hb0.out)⟩)
  clear hx hok hW0 hb0 htab
  go_enter Tryz.func3, Tryz.ntmps3
  go_wp2_with fail
  rw [← HW0.out]
  have hte3 : (textOf v == textOf v) = true := by simp
  go_region_held3 (fun w' => Below W0.heap.size W0 w' ∧ w'.cell? ⟨w.heap.size, 0, none⟩ = some (.int .i64 v.k) ∧ w'.cell? ⟨w.heap.size, 1, none⟩ = some (.int .i64 v.n) ∧ w'.cell? ⟨w.heap.size, 2, none⟩ = some (.string v.s) ∧ w'.cell? ⟨w.heap.size, 3, none⟩ = some (.slice a v.ps.length cap)) (first | exact HK.out _ (Below.refl _ _).drew | exact HK.out _ (by assumption)) (first
    | (go_at_call 11; obtain ⟨hSB, hSr⟩ := ‹Below W0.heap.size W0 _ ∧ _›; refine (text_any v _ W0.heap.size _ ((HX.out.below (HB0.out.trans (hSB.mono (Nat.le_of_lt hl0)))).mono (Nat.le_of_lt hl0)) hSB.size HO.out (HTX.out _ hSB)).mono ?_; rintro e w8 ⟨rfl, hb8⟩; have hN8 : Below W0.heap.size W0 w8 := hSB.trans hb8; clear hb8 hSB hSr)
    | (go_at_call 12; obtain ⟨hSB, hSr⟩ := ‹Below W0.heap.size W0 _ ∧ _›; refine (doctext_any v _ W0.heap.size _ ((HX.out.below (HB0.out.trans (hSB.mono (Nat.le_of_lt hl0)))).mono (Nat.le_of_lt hl0)) hSB.size HO.out).mono ?_; rintro e w8 ⟨rfl, hb8⟩; have hN8 : Below W0.heap.size W0 w8 := hSB.trans hb8; clear hb8 hSB hSr)
    | (go_at_call 13; obtain ⟨hSB, hSr⟩ := ‹Below W0.heap.size W0 _ ∧ _›; refine (alive_any _ (HTW.out _ hSB)).mono ?_; rintro e w8 ⟨rfl, hb8⟩; have hN8 : Below W0.heap.size W0 w8 := hSB.trans (hb8.mono hSB.size); clear hb8 hSB hSr))
  all_goals
    have hN := ‹Below W0.heap.size W0 _ ∧ _›.1
    go_wp2_with fail
    go_ret
    exact ⟨rfl, HB0.out.trans (hN.mono (Nat.le_of_lt hl0))⟩
end Go.Proofs.YtnddcicadmbmkaaGreatDoor
