/- TermOrders' walk. -/
import Derived.Test.YtnddcicadmbmkaaGreatDoorE5
import Derived.Test.YtnddcicadmbmkaaGreatDoorF2
namespace Go.Proofs.YtnddcicadmbmkaaGreatDoor
open Go.RowKit

/-- two values boxed, one behind the other -/
theorem two_boxed (w : World) (c d : Array Value) (t : TypeId) : ∃ W0, W0 = (w.alloc (.cells c t)).alloc (.cells d t) ∧ W0.heap[w.heap.size]? = some (.cells c t (0, 0)) ∧ W0.heap[w.heap.size + 1]? = some (.cells d t (0, 0)) ∧ W0.heap.size = w.heap.size + 2 ∧ Below w.heap.size w W0 := by
  refine ⟨_, rfl, ?_, ?_, by simp, two_below _ _ _⟩
  · rw [heap_alloc_old _ _ (by simp)]; exact heap_alloc_new _ _
  · have := heap_alloc_new (w.alloc (.cells c t)) (.cells d t)
    simpa using this
theorem order_at {q : Int} {v u : V} (h : orderV v u = q) (x y : Value) (B : Nat) (w : World) (hx : IsV B w v x) (hy : IsV B w u y) (hB : B ≤ w.heap.size) (hok : v.Ok) (hok2 : u.Ok) :
    Calls Tryz.prog 14 #[x, y] w fun e w' => e = .returned (.int .i64 q) ∧ Below w.heap.size w w' := h ▸ order_all v u x y B w hx hy hB hok hok2
theorem rorder_at {q : Int} {v u : V} (h : orderV v u = q) (x y : Value) (B : Nat) (w : World) (hx : IsV B w v x) (hy : IsV B w u y) (hB : B ≤ w.heap.size) (hok : v.Ok) (hok2 : u.Ok) :
    Calls Tryz.prog 17 #[x, y] w fun e w' => e = .returned (.int .i64 q) ∧ Below w.heap.size w w' := h ▸ rorder_all v u x y B w hx hy hB hok hok2

set_option maxRecDepth 100000 in
set_option maxHeartbeats 8000000 in
theorem orders_walk (v u : V) (x y : Value) (w : World) (hx : IsV w.heap.size w v x) (hy : IsV w.heap.size w u y) (hok : v.Ok) (hok2 : u.Ok) (htab : ∀ w', Below w.heap.size w w' → Tab w') :
    Calls Tryz.prog 5 #[x, y] w fun e w' => e = .returned (.bool true) ∧ Below w.heap.size w w' := by
  have HX := Lib.hid hx
  have HY := Lib.hid hy
  have HO := Lib.hid hok
  have HO2 := Lib.hid hok2
  have HTAB := Lib.hid htab
  obtain ⟨a, cap, rfl, hcap, _⟩ := hx.open
  obtain ⟨a2, cap2, rfl, hcap2, _⟩ := hy.open
  have hlen := ok_len hok
  have hlen2 := ok_len hok2
  obtain ⟨r, hr⟩ : ∃ r, rightV v = r := ⟨_, rfl⟩
  obtain ⟨q, hq⟩ : ∃ q, orderV v u = q := ⟨_, rfl⟩
  obtain ⟨z, hz⟩ : ∃ z, decide (q = 0) = z := ⟨_, rfl⟩
  have HR := Lib.hid hr
  have HQ := Lib.hid hq
  have hzz : (q == 0) = z := by rw [← hz]; rfl
  have HZ := Lib.hid hz
  obtain ⟨W0, hW0, hb0, hb1, hz0, hB0⟩ := two_boxed w #[.int .i64 v.k, .int .i64 v.n, .string v.s, .slice a v.ps.length cap] #[.int .i64 u.k, .int .i64 u.n, .string u.s, .slice a2 u.ps.length cap2] 24
  have HW0 := Lib.hid hW0
  have HB0 := Lib.hid hB0
  have Hb0 := Lib.hid hb0
  have Hb1 := Lib.hid hb1
  have hl0 : w.heap.size < W0.heap.size := by omega
  have hl1 : w.heap.size + 1 < W0.heap.size := by omega
  have HTW := Lib.hid (show ∀ w' , Below W0.heap.size W0 w' → ∀ w'', Below w'.heap.size w' w'' → Tab w'' from fun w' h w'' h2 => HTAB.out _ (((HB0.out).trans (h.mono (by omega))).trans (h2.mono (by have := h.size; omega))))
  clear hx hy hok hok2 hr hq hz hW0 hB0 hb0 hb1 htab
  go_enter Tryz.func5, Tryz.ntmps5
  go_wp2_with fail
  rw [← HW0.out]
  go_region_held3 (fun w' => Below W0.heap.size W0 w' ∧ w'.cell? ⟨w.heap.size, 0, none⟩ = some (.int .i64 v.k) ∧ w'.cell? ⟨w.heap.size, 1, none⟩ = some (.int .i64 v.n) ∧ w'.cell? ⟨w.heap.size, 2, none⟩ = some (.string v.s) ∧ w'.cell? ⟨w.heap.size, 3, none⟩ = some (.slice a v.ps.length cap) ∧ w'.cell? ⟨w.heap.size + 1, 0, none⟩ = some (.int .i64 u.k) ∧ w'.cell? ⟨w.heap.size + 1, 1, none⟩ = some (.int .i64 u.n) ∧ w'.cell? ⟨w.heap.size + 1, 2, none⟩ = some (.string u.s) ∧ w'.cell? ⟨w.heap.size + 1, 3, none⟩ = some (.slice a2 u.ps.length cap2)) (first | exact two_held (Below.refl _ _).drew Hb0.out Hb1.out hl0 hl1 | exact two_held (by assumption) Hb0.out Hb1.out hl0 hl1) (first
    | (go_at_call 15; obtain ⟨hSB, hSr⟩ := ‹Below W0.heap.size W0 _ ∧ _›; refine (right_at HR.out _ w.heap.size _ (HX.out.below (HB0.out.trans (hSB.mono (Nat.le_of_lt hl0)))) (Nat.le_trans (Nat.le_of_lt hl0) hSB.size) HO.out).mono ?_; rintro e w8 ⟨rfl, hb8⟩; have hN8 : Below W0.heap.size W0 w8 := hSB.trans (hb8.mono hSB.size); clear hb8 hSB hSr)
    | (go_at_call 16; obtain ⟨hSB, hSr⟩ := ‹Below W0.heap.size W0 _ ∧ _›; refine (rright_at HR.out _ w.heap.size _ (HX.out.below (HB0.out.trans (hSB.mono (Nat.le_of_lt hl0)))) (Nat.le_trans (Nat.le_of_lt hl0) hSB.size) HO.out).mono ?_; rintro e w8 ⟨rfl, hb8⟩; have hN8 : Below W0.heap.size W0 w8 := hSB.trans (hb8.mono hSB.size); clear hb8 hSB hSr)
    | (go_at_call 14; obtain ⟨hSB, hSr⟩ := ‹Below W0.heap.size W0 _ ∧ _›; refine (order_at HQ.out _ _ w.heap.size _ (HX.out.below (HB0.out.trans (hSB.mono (Nat.le_of_lt hl0)))) (HY.out.below (HB0.out.trans (hSB.mono (Nat.le_of_lt hl0)))) (Nat.le_trans (Nat.le_of_lt hl0) hSB.size) HO.out HO2.out).mono ?_; rintro e w8 ⟨rfl, hb8⟩; have hN8 : Below W0.heap.size W0 w8 := hSB.trans (hb8.mono hSB.size); clear hb8 hSB hSr)
    | (go_at_call 17; obtain ⟨hSB, hSr⟩ := ‹Below W0.heap.size W0 _ ∧ _›; refine (rorder_at HQ.out _ _ w.heap.size _ (HX.out.below (HB0.out.trans (hSB.mono (Nat.le_of_lt hl0)))) (HY.out.below (HB0.out.trans (hSB.mono (Nat.le_of_lt hl0)))) (Nat.le_trans (Nat.le_of_lt hl0) hSB.size) HO.out HO2.out).mono ?_; rintro e w8 ⟨rfl, hb8⟩; have hN8 : Below W0.heap.size W0 w8 := hSB.trans (hb8.mono hSB.size); clear hb8 hSB hSr)
    | (go_at_call 18; obtain ⟨hSB, hSr⟩ := ‹Below W0.heap.size W0 _ ∧ _›; refine (same_all _ _ _ _ w.heap.size _ (HX.out.below (HB0.out.trans (hSB.mono (Nat.le_of_lt hl0)))) (HY.out.below (HB0.out.trans (hSB.mono (Nat.le_of_lt hl0)))) (Nat.le_trans (Nat.le_of_lt hl0) hSB.size) HO.out HO2.out).mono ?_; rintro e w8 ⟨rfl, hb8⟩; rw [HQ.out, HZ.out]; have hN8 : Below W0.heap.size W0 w8 := hSB.trans (hb8.mono hSB.size); clear hb8 hSB hSr)
    | (go_at_call 13; obtain ⟨hSB, hSr⟩ := ‹Below W0.heap.size W0 _ ∧ _›; refine (alive_any _ (HTW.out _ hSB)).mono ?_; rintro e w8 ⟨rfl, hb8⟩; have hN8 : Below W0.heap.size W0 w8 := hSB.trans (hb8.mono hSB.size); clear hb8 hSB hSr))
  all_goals
    have hN := ‹Below W0.heap.size W0 _ ∧ _›.1
    go_wp2_with fail
    go_ret
    exact ⟨rfl, HB0.out.trans (hN.mono (Nat.le_of_lt hl0))⟩
end Go.Proofs.YtnddcicadmbmkaaGreatDoor
