/- The order of any two values, and whether they are the same: walks (printed by genorder.py). -/
import Derived.Test.YtnddcicadmbmkaaGreatDoorA8
import Derived.Deep.RegionHeld3
namespace Go.Proofs.YtnddcicadmbmkaaGreatDoor
open Go.RowKit

theorem two_held {W0 w1 : World} {b c : Nat} {x0 x1 x2 x3 y0 y1 y2 y3 : Value} {t s : TypeId} {z z' : Nat × Nat} (h : Below W0.heap.size W0 w1) (h1 : W0.heap[b]? = some (.cells #[x0, x1, x2, x3] t z)) (h2 : W0.heap[c]? = some (.cells #[y0, y1, y2, y3] s z')) (hb : b < W0.heap.size) (hc : c < W0.heap.size) :
    Below W0.heap.size W0 w1 ∧ w1.cell? ⟨b, 0, none⟩ = some x0 ∧ w1.cell? ⟨b, 1, none⟩ = some x1 ∧ w1.cell? ⟨b, 2, none⟩ = some x2 ∧ w1.cell? ⟨b, 3, none⟩ = some x3 ∧ w1.cell? ⟨c, 0, none⟩ = some y0 ∧ w1.cell? ⟨c, 1, none⟩ = some y1 ∧ w1.cell? ⟨c, 2, none⟩ = some y2 ∧ w1.cell? ⟨c, 3, none⟩ = some y3 := by
  have g1 := block4 ((h.block b hb).trans h1)
  have g2 := block4 ((h.block c hc).trans h2)
  exact ⟨h, g1.1, g1.2.1, g1.2.2.1, g1.2.2.2, g2.1, g2.2.1, g2.2.2.1, g2.2.2.2⟩

theorem right_at {r : Bool} {v : V} (h : rightV v = r) (x : Value) (B : Nat) (w : World) (hx : IsV B w v x) (hB : B ≤ w.heap.size) (hok : v.Ok) :
    Calls Tryz.prog 15 #[x] w fun e w' => e = .returned (.bool r) ∧ Below w.heap.size w w' := h ▸ right_any v x B w hx hB hok
theorem rright_at {r : Bool} {v : V} (h : rightV v = r) (x : Value) (B : Nat) (w : World) (hx : IsV B w v x) (hB : B ≤ w.heap.size) (hok : v.Ok) :
    Calls Tryz.prog 16 #[x] w fun e w' => e = .returned (.bool r) ∧ Below w.heap.size w w' := h ▸ rright_any v x B w hx hB hok

set_option maxRecDepth 100000 in
set_option maxHeartbeats 4000000 in
theorem order_all (v u : V) (x y : Value) (B : Nat) (w : World) (hx : IsV B w v x) (hy : IsV B w u y) (hB : B ≤ w.heap.size) (hok : v.Ok) (hok2 : u.Ok) :
    Calls Tryz.prog 14 #[x, y] w fun e w' => e = .returned (.int .i64 (orderV v u)) ∧ Below w.heap.size w w' := by
  have HX := Lib.hid hx
  have HY := Lib.hid hy
  have HO := Lib.hid hok
  have HO2 := Lib.hid hok2
  obtain ⟨a, cap, rfl, hcap, _⟩ := hx.open
  obtain ⟨a2, cap2, rfl, hcap2, _⟩ := hy.open
  have hlen := ok_len hok
  have hlen2 := ok_len hok2
  have heq : Hid (orderV v u = if rightV v then (if rightV u then standV v u else 1) else (if rightV u then -1 else 0)) := Lib.hid rfl
  obtain ⟨r1, hr1⟩ : ∃ r1, rightV v = r1 := ⟨_, rfl⟩
  obtain ⟨r2, hr2⟩ : ∃ r2, rightV u = r2 := ⟨_, rfl⟩
  have HR1 := Lib.hid hr1
  have HR2 := Lib.hid hr2
  obtain ⟨q, hq⟩ : ∃ q, standV v u = q := ⟨_, rfl⟩
  have hqb := standV_bd v u
  rw [hq] at hqb
  rw [hr1, hr2, hq] at heq
  have HQ := Lib.hid hq
  clear hx hy hok hok2 hr1 hr2 hq
  go_enter Tryz.func14, Tryz.ntmps14
  go_wp2_with fail
  obtain ⟨W0, hW0⟩ : ∃ W0, W0 = (w.alloc (.cells #[.int .i64 v.k, .int .i64 v.n, .string v.s, .slice a v.ps.length cap] 24)).alloc (.cells #[.int .i64 u.k, .int .i64 u.n, .string u.s, .slice a2 u.ps.length cap2] 24) := ⟨_, rfl⟩
  have hb0 : W0.heap[w.heap.size]? = some (.cells #[.int .i64 v.k, .int .i64 v.n, .string v.s, .slice a v.ps.length cap] 24 (0, 0)) := by rw [hW0, heap_alloc_old _ _ (by simp)]; exact heap_alloc_new _ _
  have hb1 : W0.heap[w.heap.size + 1]? = some (.cells #[.int .i64 u.k, .int .i64 u.n, .string u.s, .slice a2 u.ps.length cap2] 24 (0, 0)) := by
    have := heap_alloc_new (w.alloc (.cells #[.int .i64 v.k, .int .i64 v.n, .string v.s, .slice a v.ps.length cap] 24)) (.cells #[.int .i64 u.k, .int .i64 u.n, .string u.s, .slice a2 u.ps.length cap2] 24)
    rw [hW0]
    simpa using this
  have hz0 : W0.heap.size = w.heap.size + 2 := by rw [hW0]; simp
  have hB0 : Below w.heap.size w W0 := by rw [hW0]; exact two_below _ _ _
  rw [← hW0]
  have HB0 := Lib.hid hB0
  have HBB := Lib.hid (hB0.mono hB)
  have HBz := Lib.hid (show B ≤ W0.heap.size by omega)
  have Hb0 := Lib.hid hb0
  have Hb1 := Lib.hid hb1
  have hl0 : w.heap.size < W0.heap.size := by omega
  have hl1 : w.heap.size + 1 < W0.heap.size := by omega
  clear hW0 hB0 hb0 hb1
  go_region_held3 (fun w' => Below W0.heap.size W0 w' ∧ w'.cell? ⟨w.heap.size, 0, none⟩ = some (.int .i64 v.k) ∧ w'.cell? ⟨w.heap.size, 1, none⟩ = some (.int .i64 v.n) ∧ w'.cell? ⟨w.heap.size, 2, none⟩ = some (.string v.s) ∧ w'.cell? ⟨w.heap.size, 3, none⟩ = some (.slice a v.ps.length cap) ∧ w'.cell? ⟨w.heap.size + 1, 0, none⟩ = some (.int .i64 u.k) ∧ w'.cell? ⟨w.heap.size + 1, 1, none⟩ = some (.int .i64 u.n) ∧ w'.cell? ⟨w.heap.size + 1, 2, none⟩ = some (.string u.s) ∧ w'.cell? ⟨w.heap.size + 1, 3, none⟩ = some (.slice a2 u.ps.length cap2)) (first | exact two_held (Below.refl _ _).drew Hb0.out Hb1.out hl0 hl1 | exact two_held (by assumption) Hb0.out Hb1.out hl0 hl1) (first | (go_at_call 15; obtain ⟨hSB, hSr⟩ := ‹Below W0.heap.size W0 _ ∧ _›; refine (right_at HR1.out _ B _ (HX.out.below (HBB.out.trans (hSB.mono HBz.out))) (Nat.le_trans HBz.out hSB.size) HO.out).mono ?_; rintro e w7 ⟨rfl, hb7⟩; have hN7 : Below W0.heap.size W0 w7 := hSB.trans (hb7.mono hSB.size); clear hSB hSr hb7) | (go_at_call 15; obtain ⟨hSB, hSr⟩ := ‹Below W0.heap.size W0 _ ∧ _›; refine (right_at HR2.out _ B _ (HY.out.below (HBB.out.trans (hSB.mono HBz.out))) (Nat.le_trans HBz.out hSB.size) HO2.out).mono ?_; rintro e w7 ⟨rfl, hb7⟩; have hN7 : Below W0.heap.size W0 w7 := hSB.trans (hb7.mono hSB.size); clear hSB hSr hb7))
  rename_i hhd
  have HN := Lib.hid hN7
  obtain ⟨_, c0, c1, c2, c3, d0, d1, d2, d3⟩ := hhd
  clear hN7 hl0 hl1
  cases r1 with
  | true =>
    cases r2 with
    | true =>
      have heq2 := Lib.hid (show orderV v u = q by rw [heq.out]; rfl)
      go_wp2_with fail
      clear c0 c1 c2 c3 d0 d1 d2 d3
      have hc := stand_any (v.sz + 1) v u _ _ B w7 (Nat.lt_succ_self _) (HX.out.below (HBB.out.trans (HN.out.mono HBz.out))) (HY.out.below (HBB.out.trans (HN.out.mono HBz.out))) (Nat.le_trans HBz.out HN.out.size) HO.out HO2.out
      rw [HQ.out] at hc
      refine hc.mono ?_
      clear hc
      rintro e w8 ⟨rfl, hb8⟩
      have HB8 := Lib.hid hb8
      clear hb8
      go_wp2_with fail
      go_ret
      exact ⟨ret_int heq2.out.symm, HB0.out.trans ((HN.out.trans (HB8.out.mono HN.out.size)).mono (by omega))⟩
    | false =>
      have heq2 := Lib.hid (show orderV v u = 1 by rw [heq.out]; rfl)
      clear c0 c1 c2 c3 d0 d1 d2 d3
      go_wp2_with fail
      go_ret
      exact ⟨ret_int heq2.out.symm, HB0.out.trans (HN.out.mono (by omega))⟩
  | false =>
    cases r2 with
    | true =>
      have heq2 := Lib.hid (show orderV v u = -1 by rw [heq.out]; rfl)
      clear c0 c1 c2 c3 d0 d1 d2 d3
      go_wp2_with fail
      go_ret
      exact ⟨ret_int heq2.out.symm, HB0.out.trans (HN.out.mono (by omega))⟩
    | false =>
      have heq2 := Lib.hid (show orderV v u = 0 by rw [heq.out]; rfl)
      clear c0 c1 c2 c3 d0 d1 d2 d3
      go_wp2_with fail
      go_ret
      exact ⟨ret_int heq2.out.symm, HB0.out.trans (HN.out.mono (by omega))⟩


end Go.Proofs.YtnddcicadmbmkaaGreatDoor
