/- TermUnlike's walk. -/
import Derived.Test.YtnddcicadmbmkaaGreatDoorG1
import Derived.Test.YtnddcicadmbmkaaGreatDoorG4
namespace Go.Proofs.YtnddcicadmbmkaaGreatDoor
open Go.RowKit

theorem text_bytes {v u : V} (hv : rightV v = true) (hu : rightV u = true) : ((⟨(textOf v).toArray⟩ : ByteArray).toList == (⟨(textOf u).toArray⟩ : ByteArray).toList) = decide (orderV v u = 0) := by
  rw [str_eq, Bool.eq_iff_iff, decide_eq_true_eq, decide_eq_true_eq, order_same hv hu, ← text_same hv hu]
  exact ⟨fun h => by simpa using h, fun h => by rw [h]⟩

set_option maxRecDepth 100000 in
set_option maxHeartbeats 8000000 in
theorem unlike_walk (v u : V) (x y : Value) (w : World) (hx : IsV w.heap.size w v x) (hy : IsV w.heap.size w u y) (hok : v.Ok) (hok2 : u.Ok) (htab : ∀ w', Below w.heap.size w w' → Tab w') :
    Calls Tryz.prog 6 #[x, y] w fun e w' => e = .returned (.bool true) ∧ Below w.heap.size w w' := by
  have HX := Lib.hid hx
  have HY := Lib.hid hy
  have HO := Lib.hid hok
  have HO2 := Lib.hid hok2
  have HTAB := Lib.hid htab
  obtain ⟨a, cap, rfl, hcap, _⟩ := hx.open
  obtain ⟨a2, cap2, rfl, hcap2, _⟩ := hy.open
  have hlen := ok_len hok
  have hlen2 := ok_len hok2
  obtain ⟨r, hr⟩ : ∃ r, rightV v = r := ⟨_, rfl⟩
  obtain ⟨r2, hr2⟩ : ∃ r2, rightV u = r2 := ⟨_, rfl⟩
  obtain ⟨z, hz⟩ : ∃ z, decide (orderV v u = 0) = z := ⟨_, rfl⟩
  have HR := Lib.hid hr
  have HR2 := Lib.hid hr2
  have HZ := Lib.hid hz
  have HTE := Lib.hid (show rightV v = true → rightV u = true → ((⟨(textOf v).toArray⟩ : ByteArray).toList == (⟨(textOf u).toArray⟩ : ByteArray).toList) = z from fun h1 h2 => (text_bytes h1 h2).trans hz)
  obtain ⟨W0, hW0, hb0, hb1, hz0, hB0⟩ := two_boxed w #[.int .i64 v.k, .int .i64 v.n, .string v.s, .slice a v.ps.length cap] #[.int .i64 u.k, .int .i64 u.n, .string u.s, .slice a2 u.ps.length cap2] 24
  have HW0 := Lib.hid hW0
  have HB0 := Lib.hid hB0
  have Hb0 := Lib.hid hb0
  have Hb1 := Lib.hid hb1
  have hl0 : w.heap.size < W0.heap.size := by omega
  have hl1 : w.heap.size + 1 < W0.heap.size := by omega
  have HTW := Lib.hid (show ∀ w' , Below W0.heap.size W0 w' → ∀ w'', Below w'.heap.size w' w'' → Tab w'' from fun w' h w'' h2 => HTAB.out _ (((HB0.out).trans (h.mono (by omega))).trans (h2.mono (by have := h.size; omega))))
  have HTX := Lib.hid (show ∀ w' , Below W0.heap.size W0 w' → ∀ w'', Below W0.heap.size w' w'' → Tab w'' from fun w' h w'' h2 => HTAB.out _ (((HB0.out).trans (h.mono (by omega))).trans (h2.mono (by omega))))
  obtain ⟨_, c0, c1, c2, c3, d0, d1, d2, d3⟩ := two_held (Below.refl W0.heap.size W0) hb0 hb1 hl0 hl1
  have hq : ∀ {α : Prop}, W0 = (w.alloc (.cells #[.int .i64 v.k, .int .i64 v.n, .string v.s, .slice a v.ps.length cap] 24)).alloc (.cells #[.int .i64 u.k, .int .i64 u.n, .string u.s, .slice a2 u.ps.length cap2] 24) → α → α := fun _ h => h
  clear hx hy hok hok2 hr hr2 hz hW0 hB0 hb0 hb1 htab hq c0 c1 c2 c3 d0 d1 d2 d3
  go_enter Tryz.func6, Tryz.ntmps6
  go_wp2_with fail
  rw [← HW0.out]
  refine (right_at HR.out _ w.heap.size _ (HX.out.below HB0.out) (Nat.le_of_lt hl0) HO.out).mono ?_
  rintro e w1 ⟨rfl, hb1⟩
  have HB1 := Lib.hid hb1
  have hs1 := hb1.size
  obtain ⟨_, c0, c1, c2, c3, d0, d1, d2, d3⟩ := two_held hb1 Hb0.out Hb1.out hl0 hl1
  clear hb1
  cases r with
  | false =>
    go_wp2_with fail
    refine (alive_any _ (HTW.out _ HB1.out)).mono ?_
    rintro e w8 ⟨rfl, hb8⟩
    have HB8 := Lib.hid hb8
    clear hb8 c0 c1 c2 c3 d0 d1 d2 d3
    go_wp2_with fail
    go_ret
    exact ⟨rfl, HB0.out.trans ((HB1.out.mono (Nat.le_of_lt hl0)).trans (HB8.out.mono (by omega)))⟩
  | true =>
    go_wp2_with fail
    refine (right_at HR2.out _ w.heap.size _ (HY.out.below (HB0.out.trans (HB1.out.mono (Nat.le_of_lt hl0)))) (by omega) HO2.out).mono ?_
    rintro e w2 ⟨rfl, hb2⟩
    have HB2 := Lib.hid (HB1.out.trans (hb2.mono hs1))
    have hs2 := hb2.size
    clear hb2 c0 c1 c2 c3 d0 d1 d2 d3
    cases r2 with
    | false =>
      go_wp2_with fail
      refine (alive_any _ (HTW.out _ HB2.out)).mono ?_
      rintro e w8 ⟨rfl, hb8⟩
      have HB8 := Lib.hid hb8
      clear hb8
      go_wp2_with fail
      go_ret
      exact ⟨rfl, HB0.out.trans ((HB2.out.mono (Nat.le_of_lt hl0)).trans (HB8.out.mono (by omega)))⟩
    | true =>
      have hte := HTE.out HR.out HR2.out
      have hte2 : (textOf v == textOf u) = z := by rw [← hte, str_eq, Bool.eq_iff_iff, beq_iff_eq, decide_eq_true_eq]; exact ⟨fun h => by rw [h], fun h => by simpa using h⟩
      have hte3 : decide (textOf v = textOf u) = z := by rw [← hte2, Bool.eq_iff_iff, decide_eq_true_eq, beq_iff_eq]
      go_wp2_with fail
      go_region_held3 (fun w' => Below W0.heap.size W0 w' ∧ w'.cell? ⟨w.heap.size, 0, none⟩ = some (.int .i64 v.k) ∧ w'.cell? ⟨w.heap.size, 1, none⟩ = some (.int .i64 v.n) ∧ w'.cell? ⟨w.heap.size, 2, none⟩ = some (.string v.s) ∧ w'.cell? ⟨w.heap.size, 3, none⟩ = some (.slice a v.ps.length cap) ∧ w'.cell? ⟨w.heap.size + 1, 0, none⟩ = some (.int .i64 u.k) ∧ w'.cell? ⟨w.heap.size + 1, 1, none⟩ = some (.int .i64 u.n) ∧ w'.cell? ⟨w.heap.size + 1, 2, none⟩ = some (.string u.s) ∧ w'.cell? ⟨w.heap.size + 1, 3, none⟩ = some (.slice a2 u.ps.length cap2)) (first | exact two_held (HB2.out.trans ((Below.refl _ _).drew.mono (by omega))) Hb0.out Hb1.out hl0 hl1 | exact two_held (by assumption) Hb0.out Hb1.out hl0 hl1) (first
        | (go_at_call 11; obtain ⟨hSB, hSr⟩ := ‹Below W0.heap.size W0 _ ∧ _›; first | (refine (text_any v (.agg #[.int .i64 v.k, .int .i64 v.n, .string v.s, .slice a v.ps.length cap]) W0.heap.size _ ((HX.out.below (HB0.out.trans (hSB.mono (Nat.le_of_lt hl0)))).mono (Nat.le_of_lt hl0)) hSB.size HO.out (HTX.out _ hSB)).mono ?_; rintro e w8 ⟨rfl, hb8⟩; have hN8 : Below W0.heap.size W0 w8 := hSB.trans hb8; clear hb8 hSB hSr) | (refine (text_any u (.agg #[.int .i64 u.k, .int .i64 u.n, .string u.s, .slice a2 u.ps.length cap2]) W0.heap.size _ ((HY.out.below (HB0.out.trans (hSB.mono (Nat.le_of_lt hl0)))).mono (Nat.le_of_lt hl0)) hSB.size HO2.out (HTX.out _ hSB)).mono ?_; rintro e w8 ⟨rfl, hb8⟩; have hN8 : Below W0.heap.size W0 w8 := hSB.trans hb8; clear hb8 hSB hSr))
        | (go_at_call 18; obtain ⟨hSB, hSr⟩ := ‹Below W0.heap.size W0 _ ∧ _›; refine (same_all _ _ _ _ w.heap.size _ (HX.out.below (HB0.out.trans (hSB.mono (Nat.le_of_lt hl0)))) (HY.out.below (HB0.out.trans (hSB.mono (Nat.le_of_lt hl0)))) (Nat.le_trans (Nat.le_of_lt hl0) hSB.size) HO.out HO2.out).mono ?_; rintro e w8 ⟨rfl, hb8⟩; rw [HZ.out]; have hN8 : Below W0.heap.size W0 w8 := hSB.trans (hb8.mono hSB.size); clear hb8 hSB hSr)
        | (go_at_call 13; obtain ⟨hSB, hSr⟩ := ‹Below W0.heap.size W0 _ ∧ _›; refine (alive_any _ (HTW.out _ hSB)).mono ?_; rintro e w8 ⟨rfl, hb8⟩; have hN8 : Below W0.heap.size W0 w8 := hSB.trans (hb8.mono hSB.size); clear hb8 hSB hSr))
      all_goals
        have hN := ‹Below W0.heap.size W0 _ ∧ _›.1
        go_wp2_with fail
        go_ret
        exact ⟨rfl, HB0.out.trans (hN.mono (Nat.le_of_lt hl0))⟩
end Go.Proofs.YtnddcicadmbmkaaGreatDoor
