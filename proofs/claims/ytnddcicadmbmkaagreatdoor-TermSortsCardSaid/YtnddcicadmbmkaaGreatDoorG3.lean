/- TermSorts' walk, a case of the three orders at a time (printed by gensorts.py). -/
import Derived.Test.YtnddcicadmbmkaaGreatDoorG1
import Derived.Test.YtnddcicadmbmkaaGreatDoorG2
import Derived.Deep.DeepCutAuto
namespace Go.Proofs.YtnddcicadmbmkaaGreatDoor
open Go.RowKit

theorem three_boxed (w : World) (c d f : Array Value) (t : TypeId) : ∃ W0, W0 = ((w.alloc (.cells c t)).alloc (.cells d t)).alloc (.cells f t) ∧ W0.heap[w.heap.size]? = some (.cells c t (0, 0)) ∧ W0.heap[w.heap.size + 1]? = some (.cells d t (0, 0)) ∧ W0.heap[w.heap.size + 1 + 1]? = some (.cells f t (0, 0)) ∧ W0.heap.size = w.heap.size + 3 ∧ Below w.heap.size w W0 := by
  obtain ⟨h1, h2, h3, h4, h5⟩ := three_new w (.cells c t) (.cells d t) (.cells f t)
  exact ⟨_, rfl, h3, h4, h5, h1, h2⟩
theorem three_held {W0 w1 : World} {b c d : Nat} {x0 x1 x2 x3 y0 y1 y2 y3 z0 z1 z2 z3 : Value} {t : TypeId} (h : Below W0.heap.size W0 w1) (h1 : W0.heap[b]? = some (.cells #[x0, x1, x2, x3] t (0, 0))) (h2 : W0.heap[c]? = some (.cells #[y0, y1, y2, y3] t (0, 0))) (h3 : W0.heap[d]? = some (.cells #[z0, z1, z2, z3] t (0, 0))) (hb : b < W0.heap.size) (hc : c < W0.heap.size) (hd : d < W0.heap.size) :
    Below W0.heap.size W0 w1 ∧ w1.cell? ⟨b, 0, none⟩ = some x0 ∧ w1.cell? ⟨b, 1, none⟩ = some x1 ∧ w1.cell? ⟨b, 2, none⟩ = some x2 ∧ w1.cell? ⟨b, 3, none⟩ = some x3 ∧ w1.cell? ⟨c, 0, none⟩ = some y0 ∧ w1.cell? ⟨c, 1, none⟩ = some y1 ∧ w1.cell? ⟨c, 2, none⟩ = some y2 ∧ w1.cell? ⟨c, 3, none⟩ = some y3 ∧ w1.cell? ⟨d, 0, none⟩ = some z0 ∧ w1.cell? ⟨d, 1, none⟩ = some z1 ∧ w1.cell? ⟨d, 2, none⟩ = some z2 ∧ w1.cell? ⟨d, 3, none⟩ = some z3 := by
  have g1 := block4 ((h.block b hb).trans h1)
  have g2 := block4 ((h.block c hc).trans h2)
  have g3 := block4 ((h.block d hd).trans h3)
  exact ⟨h, g1.1, g1.2.1, g1.2.2.1, g1.2.2.2, g2.1, g2.2.1, g2.2.2.1, g2.2.2.2, g3.1, g3.2.1, g3.2.2.1, g3.2.2.2⟩

set_option maxRecDepth 100000 in
set_option maxHeartbeats 8000000 in
theorem sorts1 (u v t : V) (x y z : Value) (n k : Int) (w : World) (hx : IsV w.heap.size w u x) (hy : IsV w.heap.size w v y) (hz : IsV w.heap.size w t z) (hok : u.Ok) (hok2 : v.Ok) (hok3 : t.Ok) (htab : ∀ w', Below w.heap.size w w' → Tab w')
    (hm : orderV u v = 1) (hn : orderV v t = n) (hk : orderV u t = k) :
    Calls Tryz.prog 4 #[x, y, z] w fun e w' => e = .returned (.bool true) ∧ Below w.heap.size w w' := by
  have HV0 := Lib.hid hx
  have HV1 := Lib.hid hy
  have HV2 := Lib.hid hz
  have HO0 := Lib.hid hok
  have HO1 := Lib.hid hok2
  have HO2 := Lib.hid hok3
  have HTAB := Lib.hid htab
  have HM := Lib.hid hm
  have HNN := Lib.hid hn
  have HKK := Lib.hid hk
  have HM2 := Lib.hid (show orderV v u = (-1) from by have h := order_turn u v; omega)
  have HS := Lib.hid (order_self u)
  obtain ⟨a, cap, rfl, hcap, _⟩ := hx.open
  obtain ⟨a2, cap2, rfl, hcap2, _⟩ := hy.open
  obtain ⟨a3, cap3, rfl, hcap3, _⟩ := hz.open
  have hlen := ok_len hok
  have hlen2 := ok_len hok2
  have hlen3 := ok_len hok3
  have hbdn := orderV_bd v t
  rw [hn] at hbdn
  have hbdk := orderV_bd u t
  rw [hk] at hbdk
  obtain ⟨W0, hW0, hb0, hb1, hb2, hz0, hB0⟩ := three_boxed w #[.int .i64 u.k, .int .i64 u.n, .string u.s, .slice a u.ps.length cap] #[.int .i64 v.k, .int .i64 v.n, .string v.s, .slice a2 v.ps.length cap2] #[.int .i64 t.k, .int .i64 t.n, .string t.s, .slice a3 t.ps.length cap3] 24
  have HW0 := Lib.hid hW0
  have HB0 := Lib.hid hB0
  have Hb0 := Lib.hid hb0
  have Hb1 := Lib.hid hb1
  have Hb2 := Lib.hid hb2
  have hl0 : w.heap.size < W0.heap.size := by omega
  have hl1 : w.heap.size + 1 < W0.heap.size := by omega
  have hl2 : w.heap.size + 1 + 1 < W0.heap.size := by omega
  have HTW := Lib.hid (show ∀ w', Below W0.heap.size W0 w' → ∀ w'', Below w'.heap.size w' w'' → Tab w'' from fun w' h w'' h2 => HTAB.out _ (((HB0.out).trans (h.mono (by omega))).trans (h2.mono (by have := h.size; omega))))
  clear hx hy hz hok hok2 hok3 hm hn hk hW0 hB0 hb0 hb1 hb2 htab
  go_enter Tryz.func4, Tryz.ntmps4
  go_wp2_with fail
  rw [← HW0.out]
  go_upto_region 1 with fail
  go_cut [7, 8, 9] (fun s7 s8 s9 wx => s7 = .int .i64 1 ∧ s8 = .int .i64 n ∧ s9 = .int .i64 k ∧ Below W0.heap.size W0 wx)
  case first =>
    go_region_held3 (fun w' => Below W0.heap.size W0 w' ∧ w'.cell? ⟨w.heap.size, 0, none⟩ = some (.int .i64 u.k) ∧ w'.cell? ⟨w.heap.size, 1, none⟩ = some (.int .i64 u.n) ∧ w'.cell? ⟨w.heap.size, 2, none⟩ = some (.string u.s) ∧ w'.cell? ⟨w.heap.size, 3, none⟩ = some (.slice a u.ps.length cap) ∧ w'.cell? ⟨w.heap.size + 1, 0, none⟩ = some (.int .i64 v.k) ∧ w'.cell? ⟨w.heap.size + 1, 1, none⟩ = some (.int .i64 v.n) ∧ w'.cell? ⟨w.heap.size + 1, 2, none⟩ = some (.string v.s) ∧ w'.cell? ⟨w.heap.size + 1, 3, none⟩ = some (.slice a2 v.ps.length cap2) ∧ w'.cell? ⟨w.heap.size + 1 + 1, 0, none⟩ = some (.int .i64 t.k) ∧ w'.cell? ⟨w.heap.size + 1 + 1, 1, none⟩ = some (.int .i64 t.n) ∧ w'.cell? ⟨w.heap.size + 1 + 1, 2, none⟩ = some (.string t.s) ∧ w'.cell? ⟨w.heap.size + 1 + 1, 3, none⟩ = some (.slice a3 t.ps.length cap3)) (first | exact three_held (Below.refl _ _).drew Hb0.out Hb1.out Hb2.out hl0 hl1 hl2 | exact three_held (by assumption) Hb0.out Hb1.out Hb2.out hl0 hl1 hl2) (first | (go_at_call 14; obtain ⟨hSB, hSr⟩ := ‹Below W0.heap.size W0 _ ∧ _›; ((with_reducible refine (order_at HM.out (.agg #[.int .i64 u.k, .int .i64 u.n, .string u.s, .slice a u.ps.length cap]) (.agg #[.int .i64 v.k, .int .i64 v.n, .string v.s, .slice a2 v.ps.length cap2]) w.heap.size _ (HV0.out.below (HB0.out.trans (hSB.mono (Nat.le_of_lt hl0)))) (HV1.out.below (HB0.out.trans (hSB.mono (Nat.le_of_lt hl0)))) (Nat.le_trans (Nat.le_of_lt hl0) hSB.size) HO0.out HO1.out).mono ?_); rintro e w8 ⟨rfl, hb8⟩; have hN8 : Below W0.heap.size W0 w8 := hSB.trans (hb8.mono hSB.size); clear hb8 hSB hSr)) | (go_at_call 14; obtain ⟨hSB, hSr⟩ := ‹Below W0.heap.size W0 _ ∧ _›; ((with_reducible refine (order_at HNN.out (.agg #[.int .i64 v.k, .int .i64 v.n, .string v.s, .slice a2 v.ps.length cap2]) (.agg #[.int .i64 t.k, .int .i64 t.n, .string t.s, .slice a3 t.ps.length cap3]) w.heap.size _ (HV1.out.below (HB0.out.trans (hSB.mono (Nat.le_of_lt hl0)))) (HV2.out.below (HB0.out.trans (hSB.mono (Nat.le_of_lt hl0)))) (Nat.le_trans (Nat.le_of_lt hl0) hSB.size) HO1.out HO2.out).mono ?_); rintro e w8 ⟨rfl, hb8⟩; have hN8 : Below W0.heap.size W0 w8 := hSB.trans (hb8.mono hSB.size); clear hb8 hSB hSr)) | (go_at_call 14; obtain ⟨hSB, hSr⟩ := ‹Below W0.heap.size W0 _ ∧ _›; ((with_reducible refine (order_at HKK.out (.agg #[.int .i64 u.k, .int .i64 u.n, .string u.s, .slice a u.ps.length cap]) (.agg #[.int .i64 t.k, .int .i64 t.n, .string t.s, .slice a3 t.ps.length cap3]) w.heap.size _ (HV0.out.below (HB0.out.trans (hSB.mono (Nat.le_of_lt hl0)))) (HV2.out.below (HB0.out.trans (hSB.mono (Nat.le_of_lt hl0)))) (Nat.le_trans (Nat.le_of_lt hl0) hSB.size) HO0.out HO2.out).mono ?_); rintro e w8 ⟨rfl, hb8⟩; have hN8 : Below W0.heap.size W0 w8 := hSB.trans (hb8.mono hSB.size); clear hb8 hSB hSr)))
    all_goals
      have hN := ‹Below W0.heap.size W0 _ ∧ _›.1
      go_wp2_with fail
      go_meet
      exact ⟨rfl, rfl, rfl, hN⟩
  case rest =>
    obtain ⟨rfl, rfl, rfl, hN⟩ := hcut
    have HN := Lib.hid hN
    obtain ⟨_, x0, x1, x2, x3, y0, y1, y2, y3, _, _, _, _⟩ := three_held hN Hb0.out Hb1.out Hb2.out hl0 hl1 hl2
    have hs0 := hN.size
    clear hN
    go_wp2_with fail
    refine (order_at HM2.out (.agg #[.int .i64 v.k, .int .i64 v.n, .string v.s, .slice a2 v.ps.length cap2]) (.agg #[.int .i64 u.k, .int .i64 u.n, .string u.s, .slice a u.ps.length cap]) w.heap.size _ (HV1.out.below (HB0.out.trans (HN.out.mono (Nat.le_of_lt hl0)))) (HV0.out.below (HB0.out.trans (HN.out.mono (Nat.le_of_lt hl0)))) (by omega) HO1.out HO0.out).mono ?_
    rintro e w8 ⟨rfl, hb8⟩
    have HN8 := Lib.hid (HN.out.trans (hb8.mono hs0))
    clear hb8 x0 x1 x2 x3 y0 y1 y2 y3
    obtain ⟨_, x0, x1, x2, x3, _, _, _, _, _, _, _, _⟩ := three_held HN8.out Hb0.out Hb1.out Hb2.out hl0 hl1 hl2
    have hs8 := HN8.out.size
    go_wp2_with fail
    refine (order_at HS.out (.agg #[.int .i64 u.k, .int .i64 u.n, .string u.s, .slice a u.ps.length cap]) (.agg #[.int .i64 u.k, .int .i64 u.n, .string u.s, .slice a u.ps.length cap]) w.heap.size _ (HV0.out.below (HB0.out.trans (HN8.out.mono (Nat.le_of_lt hl0)))) (HV0.out.below (HB0.out.trans (HN8.out.mono (Nat.le_of_lt hl0)))) (by omega) HO0.out HO0.out).mono ?_
    rintro e w9 ⟨rfl, hb9⟩
    have HN9 := Lib.hid (HN8.out.trans (hb9.mono hs8))
    have hs9 := HN9.out.size
    clear hb9 x0 x1 x2 x3
    go_wp2_with fail
    refine (alive_any _ (HTW.out _ HN9.out)).mono ?_
    rintro e w10 ⟨rfl, hb10⟩
    have HN10 := Lib.hid (HN9.out.trans (hb10.mono hs9))
    clear hb10
    go_wp2_with fail
    go_ret
    exact ⟨rfl, HB0.out.trans (HN10.out.mono (Nat.le_of_lt hl0))⟩

set_option maxRecDepth 100000 in
set_option maxHeartbeats 8000000 in
theorem sorts2 (u v t : V) (x y z : Value) (k : Int) (w : World) (hx : IsV w.heap.size w u x) (hy : IsV w.heap.size w v y) (hz : IsV w.heap.size w t z) (hok : u.Ok) (hok2 : v.Ok) (hok3 : t.Ok) (htab : ∀ w', Below w.heap.size w w' → Tab w')
    (hm : orderV u v = (-1)) (hn : orderV v t = 1) (hk : orderV u t = k) :
    Calls Tryz.prog 4 #[x, y, z] w fun e w' => e = .returned (.bool true) ∧ Below w.heap.size w w' := by
  have HV0 := Lib.hid hx
  have HV1 := Lib.hid hy
  have HV2 := Lib.hid hz
  have HO0 := Lib.hid hok
  have HO1 := Lib.hid hok2
  have HO2 := Lib.hid hok3
  have HTAB := Lib.hid htab
  have HM := Lib.hid hm
  have HNN := Lib.hid hn
  have HKK := Lib.hid hk
  have HM2 := Lib.hid (show orderV v u = 1 from by have h := order_turn u v; omega)
  have HS := Lib.hid (order_self u)
  obtain ⟨a, cap, rfl, hcap, _⟩ := hx.open
  obtain ⟨a2, cap2, rfl, hcap2, _⟩ := hy.open
  obtain ⟨a3, cap3, rfl, hcap3, _⟩ := hz.open
  have hlen := ok_len hok
  have hlen2 := ok_len hok2
  have hlen3 := ok_len hok3
  have hbdk := orderV_bd u t
  rw [hk] at hbdk
  obtain ⟨W0, hW0, hb0, hb1, hb2, hz0, hB0⟩ := three_boxed w #[.int .i64 u.k, .int .i64 u.n, .string u.s, .slice a u.ps.length cap] #[.int .i64 v.k, .int .i64 v.n, .string v.s, .slice a2 v.ps.length cap2] #[.int .i64 t.k, .int .i64 t.n, .string t.s, .slice a3 t.ps.length cap3] 24
  have HW0 := Lib.hid hW0
  have HB0 := Lib.hid hB0
  have Hb0 := Lib.hid hb0
  have Hb1 := Lib.hid hb1
  have Hb2 := Lib.hid hb2
  have hl0 : w.heap.size < W0.heap.size := by omega
  have hl1 : w.heap.size + 1 < W0.heap.size := by omega
  have hl2 : w.heap.size + 1 + 1 < W0.heap.size := by omega
  have HTW := Lib.hid (show ∀ w', Below W0.heap.size W0 w' → ∀ w'', Below w'.heap.size w' w'' → Tab w'' from fun w' h w'' h2 => HTAB.out _ (((HB0.out).trans (h.mono (by omega))).trans (h2.mono (by have := h.size; omega))))
  clear hx hy hz hok hok2 hok3 hm hn hk hW0 hB0 hb0 hb1 hb2 htab
  go_enter Tryz.func4, Tryz.ntmps4
  go_wp2_with fail
  rw [← HW0.out]
  go_upto_region 1 with fail
  go_cut [7, 8, 9] (fun s7 s8 s9 wx => s7 = .int .i64 (-1) ∧ s8 = .int .i64 1 ∧ s9 = .int .i64 k ∧ Below W0.heap.size W0 wx)
  case first =>
    go_region_held3 (fun w' => Below W0.heap.size W0 w' ∧ w'.cell? ⟨w.heap.size, 0, none⟩ = some (.int .i64 u.k) ∧ w'.cell? ⟨w.heap.size, 1, none⟩ = some (.int .i64 u.n) ∧ w'.cell? ⟨w.heap.size, 2, none⟩ = some (.string u.s) ∧ w'.cell? ⟨w.heap.size, 3, none⟩ = some (.slice a u.ps.length cap) ∧ w'.cell? ⟨w.heap.size + 1, 0, none⟩ = some (.int .i64 v.k) ∧ w'.cell? ⟨w.heap.size + 1, 1, none⟩ = some (.int .i64 v.n) ∧ w'.cell? ⟨w.heap.size + 1, 2, none⟩ = some (.string v.s) ∧ w'.cell? ⟨w.heap.size + 1, 3, none⟩ = some (.slice a2 v.ps.length cap2) ∧ w'.cell? ⟨w.heap.size + 1 + 1, 0, none⟩ = some (.int .i64 t.k) ∧ w'.cell? ⟨w.heap.size + 1 + 1, 1, none⟩ = some (.int .i64 t.n) ∧ w'.cell? ⟨w.heap.size + 1 + 1, 2, none⟩ = some (.string t.s) ∧ w'.cell? ⟨w.heap.size + 1 + 1, 3, none⟩ = some (.slice a3 t.ps.length cap3)) (first | exact three_held (Below.refl _ _).drew Hb0.out Hb1.out Hb2.out hl0 hl1 hl2 | exact three_held (by assumption) Hb0.out Hb1.out Hb2.out hl0 hl1 hl2) (first | (go_at_call 14; obtain ⟨hSB, hSr⟩ := ‹Below W0.heap.size W0 _ ∧ _›; ((with_reducible refine (order_at HM.out (.agg #[.int .i64 u.k, .int .i64 u.n, .string u.s, .slice a u.ps.length cap]) (.agg #[.int .i64 v.k, .int .i64 v.n, .string v.s, .slice a2 v.ps.length cap2]) w.heap.size _ (HV0.out.below (HB0.out.trans (hSB.mono (Nat.le_of_lt hl0)))) (HV1.out.below (HB0.out.trans (hSB.mono (Nat.le_of_lt hl0)))) (Nat.le_trans (Nat.le_of_lt hl0) hSB.size) HO0.out HO1.out).mono ?_); rintro e w8 ⟨rfl, hb8⟩; have hN8 : Below W0.heap.size W0 w8 := hSB.trans (hb8.mono hSB.size); clear hb8 hSB hSr)) | (go_at_call 14; obtain ⟨hSB, hSr⟩ := ‹Below W0.heap.size W0 _ ∧ _›; ((with_reducible refine (order_at HNN.out (.agg #[.int .i64 v.k, .int .i64 v.n, .string v.s, .slice a2 v.ps.length cap2]) (.agg #[.int .i64 t.k, .int .i64 t.n, .string t.s, .slice a3 t.ps.length cap3]) w.heap.size _ (HV1.out.below (HB0.out.trans (hSB.mono (Nat.le_of_lt hl0)))) (HV2.out.below (HB0.out.trans (hSB.mono (Nat.le_of_lt hl0)))) (Nat.le_trans (Nat.le_of_lt hl0) hSB.size) HO1.out HO2.out).mono ?_); rintro e w8 ⟨rfl, hb8⟩; have hN8 : Below W0.heap.size W0 w8 := hSB.trans (hb8.mono hSB.size); clear hb8 hSB hSr)) | (go_at_call 14; obtain ⟨hSB, hSr⟩ := ‹Below W0.heap.size W0 _ ∧ _›; ((with_reducible refine (order_at HKK.out (.agg #[.int .i64 u.k, .int .i64 u.n, .string u.s, .slice a u.ps.length cap]) (.agg #[.int .i64 t.k, .int .i64 t.n, .string t.s, .slice a3 t.ps.length cap3]) w.heap.size _ (HV0.out.below (HB0.out.trans (hSB.mono (Nat.le_of_lt hl0)))) (HV2.out.below (HB0.out.trans (hSB.mono (Nat.le_of_lt hl0)))) (Nat.le_trans (Nat.le_of_lt hl0) hSB.size) HO0.out HO2.out).mono ?_); rintro e w8 ⟨rfl, hb8⟩; have hN8 : Below W0.heap.size W0 w8 := hSB.trans (hb8.mono hSB.size); clear hb8 hSB hSr)))
    all_goals
      have hN := ‹Below W0.heap.size W0 _ ∧ _›.1
      go_wp2_with fail
      go_meet
      exact ⟨rfl, rfl, rfl, hN⟩
  case rest =>
    obtain ⟨rfl, rfl, rfl, hN⟩ := hcut
    have HN := Lib.hid hN
    obtain ⟨_, x0, x1, x2, x3, y0, y1, y2, y3, _, _, _, _⟩ := three_held hN Hb0.out Hb1.out Hb2.out hl0 hl1 hl2
    have hs0 := hN.size
    clear hN
    go_wp2_with fail
    refine (order_at HM2.out (.agg #[.int .i64 v.k, .int .i64 v.n, .string v.s, .slice a2 v.ps.length cap2]) (.agg #[.int .i64 u.k, .int .i64 u.n, .string u.s, .slice a u.ps.length cap]) w.heap.size _ (HV1.out.below (HB0.out.trans (HN.out.mono (Nat.le_of_lt hl0)))) (HV0.out.below (HB0.out.trans (HN.out.mono (Nat.le_of_lt hl0)))) (by omega) HO1.out HO0.out).mono ?_
    rintro e w8 ⟨rfl, hb8⟩
    have HN8 := Lib.hid (HN.out.trans (hb8.mono hs0))
    clear hb8 x0 x1 x2 x3 y0 y1 y2 y3
    obtain ⟨_, x0, x1, x2, x3, _, _, _, _, _, _, _, _⟩ := three_held HN8.out Hb0.out Hb1.out Hb2.out hl0 hl1 hl2
    have hs8 := HN8.out.size
    go_wp2_with fail
    refine (order_at HS.out (.agg #[.int .i64 u.k, .int .i64 u.n, .string u.s, .slice a u.ps.length cap]) (.agg #[.int .i64 u.k, .int .i64 u.n, .string u.s, .slice a u.ps.length cap]) w.heap.size _ (HV0.out.below (HB0.out.trans (HN8.out.mono (Nat.le_of_lt hl0)))) (HV0.out.below (HB0.out.trans (HN8.out.mono (Nat.le_of_lt hl0)))) (by omega) HO0.out HO0.out).mono ?_
    rintro e w9 ⟨rfl, hb9⟩
    have HN9 := Lib.hid (HN8.out.trans (hb9.mono hs8))
    have hs9 := HN9.out.size
    clear hb9 x0 x1 x2 x3
    go_wp2_with fail
    refine (alive_any _ (HTW.out _ HN9.out)).mono ?_
    rintro e w10 ⟨rfl, hb10⟩
    have HN10 := Lib.hid (HN9.out.trans (hb10.mono hs9))
    clear hb10
    go_wp2_with fail
    go_ret
    exact ⟨rfl, HB0.out.trans (HN10.out.mono (Nat.le_of_lt hl0))⟩

set_option maxRecDepth 100000 in
set_option maxHeartbeats 8000000 in
theorem sorts3 (u v t : V) (x y z : Value) (k : Int) (w : World) (hx : IsV w.heap.size w u x) (hy : IsV w.heap.size w v y) (hz : IsV w.heap.size w t z) (hok : u.Ok) (hok2 : v.Ok) (hok3 : t.Ok) (htab : ∀ w', Below w.heap.size w w' → Tab w')
    (hm : orderV u v = 0) (hn : orderV v t = 1) (hk : orderV u t = k) :
    Calls Tryz.prog 4 #[x, y, z] w fun e w' => e = .returned (.bool true) ∧ Below w.heap.size w w' := by
  have HV0 := Lib.hid hx
  have HV1 := Lib.hid hy
  have HV2 := Lib.hid hz
  have HO0 := Lib.hid hok
  have HO1 := Lib.hid hok2
  have HO2 := Lib.hid hok3
  have HTAB := Lib.hid htab
  have HM := Lib.hid hm
  have HNN := Lib.hid hn
  have HKK := Lib.hid hk
  have HM2 := Lib.hid (show orderV v u = 0 from by have h := order_turn u v; omega)
  have HS := Lib.hid (order_self u)
  obtain ⟨a, cap, rfl, hcap, _⟩ := hx.open
  obtain ⟨a2, cap2, rfl, hcap2, _⟩ := hy.open
  obtain ⟨a3, cap3, rfl, hcap3, _⟩ := hz.open
  have hlen := ok_len hok
  have hlen2 := ok_len hok2
  have hlen3 := ok_len hok3
  have hbdk := orderV_bd u t
  rw [hk] at hbdk
  obtain ⟨W0, hW0, hb0, hb1, hb2, hz0, hB0⟩ := three_boxed w #[.int .i64 u.k, .int .i64 u.n, .string u.s, .slice a u.ps.length cap] #[.int .i64 v.k, .int .i64 v.n, .string v.s, .slice a2 v.ps.length cap2] #[.int .i64 t.k, .int .i64 t.n, .string t.s, .slice a3 t.ps.length cap3] 24
  have HW0 := Lib.hid hW0
  have HB0 := Lib.hid hB0
  have Hb0 := Lib.hid hb0
  have Hb1 := Lib.hid hb1
  have Hb2 := Lib.hid hb2
  have hl0 : w.heap.size < W0.heap.size := by omega
  have hl1 : w.heap.size + 1 < W0.heap.size := by omega
  have hl2 : w.heap.size + 1 + 1 < W0.heap.size := by omega
  have HTW := Lib.hid (show ∀ w', Below W0.heap.size W0 w' → ∀ w'', Below w'.heap.size w' w'' → Tab w'' from fun w' h w'' h2 => HTAB.out _ (((HB0.out).trans (h.mono (by omega))).trans (h2.mono (by have := h.size; omega))))
  clear hx hy hz hok hok2 hok3 hm hn hk hW0 hB0 hb0 hb1 hb2 htab
  go_enter Tryz.func4, Tryz.ntmps4
  go_wp2_with fail
  rw [← HW0.out]
  go_upto_region 1 with fail
  go_cut [7, 8, 9] (fun s7 s8 s9 wx => s7 = .int .i64 0 ∧ s8 = .int .i64 1 ∧ s9 = .int .i64 k ∧ Below W0.heap.size W0 wx)
  case first =>
    go_region_held3 (fun w' => Below W0.heap.size W0 w' ∧ w'.cell? ⟨w.heap.size, 0, none⟩ = some (.int .i64 u.k) ∧ w'.cell? ⟨w.heap.size, 1, none⟩ = some (.int .i64 u.n) ∧ w'.cell? ⟨w.heap.size, 2, none⟩ = some (.string u.s) ∧ w'.cell? ⟨w.heap.size, 3, none⟩ = some (.slice a u.ps.length cap) ∧ w'.cell? ⟨w.heap.size + 1, 0, none⟩ = some (.int .i64 v.k) ∧ w'.cell? ⟨w.heap.size + 1, 1, none⟩ = some (.int .i64 v.n) ∧ w'.cell? ⟨w.heap.size + 1, 2, none⟩ = some (.string v.s) ∧ w'.cell? ⟨w.heap.size + 1, 3, none⟩ = some (.slice a2 v.ps.length cap2) ∧ w'.cell? ⟨w.heap.size + 1 + 1, 0, none⟩ = some (.int .i64 t.k) ∧ w'.cell? ⟨w.heap.size + 1 + 1, 1, none⟩ = some (.int .i64 t.n) ∧ w'.cell? ⟨w.heap.size + 1 + 1, 2, none⟩ = some (.string t.s) ∧ w'.cell? ⟨w.heap.size + 1 + 1, 3, none⟩ = some (.slice a3 t.ps.length cap3)) (first | exact three_held (Below.refl _ _).drew Hb0.out Hb1.out Hb2.out hl0 hl1 hl2 | exact three_held (by assumption) Hb0.out Hb1.out Hb2.out hl0 hl1 hl2) (first | (go_at_call 14; obtain ⟨hSB, hSr⟩ := ‹Below W0.heap.size W0 _ ∧ _›; ((with_reducible refine (order_at HM.out (.agg #[.int .i64 u.k, .int .i64 u.n, .string u.s, .slice a u.ps.length cap]) (.agg #[.int .i64 v.k, .int .i64 v.n, .string v.s, .slice a2 v.ps.length cap2]) w.heap.size _ (HV0.out.below (HB0.out.trans (hSB.mono (Nat.le_of_lt hl0)))) (HV1.out.below (HB0.out.trans (hSB.mono (Nat.le_of_lt hl0)))) (Nat.le_trans (Nat.le_of_lt hl0) hSB.size) HO0.out HO1.out).mono ?_); rintro e w8 ⟨rfl, hb8⟩; have hN8 : Below W0.heap.size W0 w8 := hSB.trans (hb8.mono hSB.size); clear hb8 hSB hSr)) | (go_at_call 14; obtain ⟨hSB, hSr⟩ := ‹Below W0.heap.size W0 _ ∧ _›; ((with_reducible refine (order_at HNN.out (.agg #[.int .i64 v.k, .int .i64 v.n, .string v.s, .slice a2 v.ps.length cap2]) (.agg #[.int .i64 t.k, .int .i64 t.n, .string t.s, .slice a3 t.ps.length cap3]) w.heap.size _ (HV1.out.below (HB0.out.trans (hSB.mono (Nat.le_of_lt hl0)))) (HV2.out.below (HB0.out.trans (hSB.mono (Nat.le_of_lt hl0)))) (Nat.le_trans (Nat.le_of_lt hl0) hSB.size) HO1.out HO2.out).mono ?_); rintro e w8 ⟨rfl, hb8⟩; have hN8 : Below W0.heap.size W0 w8 := hSB.trans (hb8.mono hSB.size); clear hb8 hSB hSr)) | (go_at_call 14; obtain ⟨hSB, hSr⟩ := ‹Below W0.heap.size W0 _ ∧ _›; ((with_reducible refine (order_at HKK.out (.agg #[.int .i64 u.k, .int .i64 u.n, .string u.s, .slice a u.ps.length cap]) (.agg #[.int .i64 t.k, .int .i64 t.n, .string t.s, .slice a3 t.ps.length cap3]) w.heap.size _ (HV0.out.below (HB0.out.trans (hSB.mono (Nat.le_of_lt hl0)))) (HV2.out.below (HB0.out.trans (hSB.mono (Nat.le_of_lt hl0)))) (Nat.le_trans (Nat.le_of_lt hl0) hSB.size) HO0.out HO2.out).mono ?_); rintro e w8 ⟨rfl, hb8⟩; have hN8 : Below W0.heap.size W0 w8 := hSB.trans (hb8.mono hSB.size); clear hb8 hSB hSr)))
    all_goals
      have hN := ‹Below W0.heap.size W0 _ ∧ _›.1
      go_wp2_with fail
      go_meet
      exact ⟨rfl, rfl, rfl, hN⟩
  case rest =>
    obtain ⟨rfl, rfl, rfl, hN⟩ := hcut
    have HN := Lib.hid hN
    obtain ⟨_, x0, x1, x2, x3, y0, y1, y2, y3, _, _, _, _⟩ := three_held hN Hb0.out Hb1.out Hb2.out hl0 hl1 hl2
    have hs0 := hN.size
    clear hN
    go_wp2_with fail
    refine (order_at HM2.out (.agg #[.int .i64 v.k, .int .i64 v.n, .string v.s, .slice a2 v.ps.length cap2]) (.agg #[.int .i64 u.k, .int .i64 u.n, .string u.s, .slice a u.ps.length cap]) w.heap.size _ (HV1.out.below (HB0.out.trans (HN.out.mono (Nat.le_of_lt hl0)))) (HV0.out.below (HB0.out.trans (HN.out.mono (Nat.le_of_lt hl0)))) (by omega) HO1.out HO0.out).mono ?_
    rintro e w8 ⟨rfl, hb8⟩
    have HN8 := Lib.hid (HN.out.trans (hb8.mono hs0))
    clear hb8 x0 x1 x2 x3 y0 y1 y2 y3
    obtain ⟨_, x0, x1, x2, x3, _, _, _, _, _, _, _, _⟩ := three_held HN8.out Hb0.out Hb1.out Hb2.out hl0 hl1 hl2
    have hs8 := HN8.out.size
    go_wp2_with fail
    refine (order_at HS.out (.agg #[.int .i64 u.k, .int .i64 u.n, .string u.s, .slice a u.ps.length cap]) (.agg #[.int .i64 u.k, .int .i64 u.n, .string u.s, .slice a u.ps.length cap]) w.heap.size _ (HV0.out.below (HB0.out.trans (HN8.out.mono (Nat.le_of_lt hl0)))) (HV0.out.below (HB0.out.trans (HN8.out.mono (Nat.le_of_lt hl0)))) (by omega) HO0.out HO0.out).mono ?_
    rintro e w9 ⟨rfl, hb9⟩
    have HN9 := Lib.hid (HN8.out.trans (hb9.mono hs8))
    have hs9 := HN9.out.size
    clear hb9 x0 x1 x2 x3
    go_wp2_with fail
    refine (alive_any _ (HTW.out _ HN9.out)).mono ?_
    rintro e w10 ⟨rfl, hb10⟩
    have HN10 := Lib.hid (HN9.out.trans (hb10.mono hs9))
    clear hb10
    go_wp2_with fail
    go_ret
    exact ⟨rfl, HB0.out.trans (HN10.out.mono (Nat.le_of_lt hl0))⟩

set_option maxRecDepth 100000 in
set_option maxHeartbeats 8000000 in
theorem sorts4 (u v t : V) (x y z : Value) (w : World) (hx : IsV w.heap.size w u x) (hy : IsV w.heap.size w v y) (hz : IsV w.heap.size w t z) (hok : u.Ok) (hok2 : v.Ok) (hok3 : t.Ok) (htab : ∀ w', Below w.heap.size w w' → Tab w')
    (hm : orderV u v = 0) (hn : orderV v t = 0) (hk : orderV u t = 0) :
    Calls Tryz.prog 4 #[x, y, z] w fun e w' => e = .returned (.bool true) ∧ Below w.heap.size w w' := by
  have HV0 := Lib.hid hx
  have HV1 := Lib.hid hy
  have HV2 := Lib.hid hz
  have HO0 := Lib.hid hok
  have HO1 := Lib.hid hok2
  have HO2 := Lib.hid hok3
  have HTAB := Lib.hid htab
  have HM := Lib.hid hm
  have HNN := Lib.hid hn
  have HKK := Lib.hid hk
  have HM2 := Lib.hid (show orderV v u = 0 from by have h := order_turn u v; omega)
  have HS := Lib.hid (order_self u)
  obtain ⟨a, cap, rfl, hcap, _⟩ := hx.open
  obtain ⟨a2, cap2, rfl, hcap2, _⟩ := hy.open
  obtain ⟨a3, cap3, rfl, hcap3, _⟩ := hz.open
  have hlen := ok_len hok
  have hlen2 := ok_len hok2
  have hlen3 := ok_len hok3
  obtain ⟨W0, hW0, hb0, hb1, hb2, hz0, hB0⟩ := three_boxed w #[.int .i64 u.k, .int .i64 u.n, .string u.s, .slice a u.ps.length cap] #[.int .i64 v.k, .int .i64 v.n, .string v.s, .slice a2 v.ps.length cap2] #[.int .i64 t.k, .int .i64 t.n, .string t.s, .slice a3 t.ps.length cap3] 24
  have HW0 := Lib.hid hW0
  have HB0 := Lib.hid hB0
  have Hb0 := Lib.hid hb0
  have Hb1 := Lib.hid hb1
  have Hb2 := Lib.hid hb2
  have hl0 : w.heap.size < W0.heap.size := by omega
  have hl1 : w.heap.size + 1 < W0.heap.size := by omega
  have hl2 : w.heap.size + 1 + 1 < W0.heap.size := by omega
  have HTW := Lib.hid (show ∀ w', Below W0.heap.size W0 w' → ∀ w'', Below w'.heap.size w' w'' → Tab w'' from fun w' h w'' h2 => HTAB.out _ (((HB0.out).trans (h.mono (by omega))).trans (h2.mono (by have := h.size; omega))))
  clear hx hy hz hok hok2 hok3 hm hn hk hW0 hB0 hb0 hb1 hb2 htab
  go_enter Tryz.func4, Tryz.ntmps4
  go_wp2_with fail
  rw [← HW0.out]
  go_upto_region 1 with fail
  go_cut [7, 8, 9] (fun s7 s8 s9 wx => s7 = .int .i64 0 ∧ s8 = .int .i64 0 ∧ s9 = .int .i64 0 ∧ Below W0.heap.size W0 wx)
  case first =>
    go_region_held3 (fun w' => Below W0.heap.size W0 w' ∧ w'.cell? ⟨w.heap.size, 0, none⟩ = some (.int .i64 u.k) ∧ w'.cell? ⟨w.heap.size, 1, none⟩ = some (.int .i64 u.n) ∧ w'.cell? ⟨w.heap.size, 2, none⟩ = some (.string u.s) ∧ w'.cell? ⟨w.heap.size, 3, none⟩ = some (.slice a u.ps.length cap) ∧ w'.cell? ⟨w.heap.size + 1, 0, none⟩ = some (.int .i64 v.k) ∧ w'.cell? ⟨w.heap.size + 1, 1, none⟩ = some (.int .i64 v.n) ∧ w'.cell? ⟨w.heap.size + 1, 2, none⟩ = some (.string v.s) ∧ w'.cell? ⟨w.heap.size + 1, 3, none⟩ = some (.slice a2 v.ps.length cap2) ∧ w'.cell? ⟨w.heap.size + 1 + 1, 0, none⟩ = some (.int .i64 t.k) ∧ w'.cell? ⟨w.heap.size + 1 + 1, 1, none⟩ = some (.int .i64 t.n) ∧ w'.cell? ⟨w.heap.size + 1 + 1, 2, none⟩ = some (.string t.s) ∧ w'.cell? ⟨w.heap.size + 1 + 1, 3, none⟩ = some (.slice a3 t.ps.length cap3)) (first | exact three_held (Below.refl _ _).drew Hb0.out Hb1.out Hb2.out hl0 hl1 hl2 | exact three_held (by assumption) Hb0.out Hb1.out Hb2.out hl0 hl1 hl2) (first | (go_at_call 14; obtain ⟨hSB, hSr⟩ := ‹Below W0.heap.size W0 _ ∧ _›; ((with_reducible refine (order_at HM.out (.agg #[.int .i64 u.k, .int .i64 u.n, .string u.s, .slice a u.ps.length cap]) (.agg #[.int .i64 v.k, .int .i64 v.n, .string v.s, .slice a2 v.ps.length cap2]) w.heap.size _ (HV0.out.below (HB0.out.trans (hSB.mono (Nat.le_of_lt hl0)))) (HV1.out.below (HB0.out.trans (hSB.mono (Nat.le_of_lt hl0)))) (Nat.le_trans (Nat.le_of_lt hl0) hSB.size) HO0.out HO1.out).mono ?_); rintro e w8 ⟨rfl, hb8⟩; have hN8 : Below W0.heap.size W0 w8 := hSB.trans (hb8.mono hSB.size); clear hb8 hSB hSr)) | (go_at_call 14; obtain ⟨hSB, hSr⟩ := ‹Below W0.heap.size W0 _ ∧ _›; ((with_reducible refine (order_at HNN.out (.agg #[.int .i64 v.k, .int .i64 v.n, .string v.s, .slice a2 v.ps.length cap2]) (.agg #[.int .i64 t.k, .int .i64 t.n, .string t.s, .slice a3 t.ps.length cap3]) w.heap.size _ (HV1.out.below (HB0.out.trans (hSB.mono (Nat.le_of_lt hl0)))) (HV2.out.below (HB0.out.trans (hSB.mono (Nat.le_of_lt hl0)))) (Nat.le_trans (Nat.le_of_lt hl0) hSB.size) HO1.out HO2.out).mono ?_); rintro e w8 ⟨rfl, hb8⟩; have hN8 : Below W0.heap.size W0 w8 := hSB.trans (hb8.mono hSB.size); clear hb8 hSB hSr)) | (go_at_call 14; obtain ⟨hSB, hSr⟩ := ‹Below W0.heap.size W0 _ ∧ _›; ((with_reducible refine (order_at HKK.out (.agg #[.int .i64 u.k, .int .i64 u.n, .string u.s, .slice a u.ps.length cap]) (.agg #[.int .i64 t.k, .int .i64 t.n, .string t.s, .slice a3 t.ps.length cap3]) w.heap.size _ (HV0.out.below (HB0.out.trans (hSB.mono (Nat.le_of_lt hl0)))) (HV2.out.below (HB0.out.trans (hSB.mono (Nat.le_of_lt hl0)))) (Nat.le_trans (Nat.le_of_lt hl0) hSB.size) HO0.out HO2.out).mono ?_); rintro e w8 ⟨rfl, hb8⟩; have hN8 : Below W0.heap.size W0 w8 := hSB.trans (hb8.mono hSB.size); clear hb8 hSB hSr)))
    all_goals
      have hN := ‹Below W0.heap.size W0 _ ∧ _›.1
      go_wp2_with fail
      go_meet
      exact ⟨rfl, rfl, rfl, hN⟩
  case rest =>
    obtain ⟨rfl, rfl, rfl, hN⟩ := hcut
    have HN := Lib.hid hN
    obtain ⟨_, x0, x1, x2, x3, y0, y1, y2, y3, _, _, _, _⟩ := three_held hN Hb0.out Hb1.out Hb2.out hl0 hl1 hl2
    have hs0 := hN.size
    clear hN
    go_wp2_with fail
    refine (order_at HM2.out (.agg #[.int .i64 v.k, .int .i64 v.n, .string v.s, .slice a2 v.ps.length cap2]) (.agg #[.int .i64 u.k, .int .i64 u.n, .string u.s, .slice a u.ps.length cap]) w.heap.size _ (HV1.out.below (HB0.out.trans (HN.out.mono (Nat.le_of_lt hl0)))) (HV0.out.below (HB0.out.trans (HN.out.mono (Nat.le_of_lt hl0)))) (by omega) HO1.out HO0.out).mono ?_
    rintro e w8 ⟨rfl, hb8⟩
    have HN8 := Lib.hid (HN.out.trans (hb8.mono hs0))
    clear hb8 x0 x1 x2 x3 y0 y1 y2 y3
    obtain ⟨_, x0, x1, x2, x3, _, _, _, _, _, _, _, _⟩ := three_held HN8.out Hb0.out Hb1.out Hb2.out hl0 hl1 hl2
    have hs8 := HN8.out.size
    go_wp2_with fail
    refine (order_at HS.out (.agg #[.int .i64 u.k, .int .i64 u.n, .string u.s, .slice a u.ps.length cap]) (.agg #[.int .i64 u.k, .int .i64 u.n, .string u.s, .slice a u.ps.length cap]) w.heap.size _ (HV0.out.below (HB0.out.trans (HN8.out.mono (Nat.le_of_lt hl0)))) (HV0.out.below (HB0.out.trans (HN8.out.mono (Nat.le_of_lt hl0)))) (by omega) HO0.out HO0.out).mono ?_
    rintro e w9 ⟨rfl, hb9⟩
    have HN9 := Lib.hid (HN8.out.trans (hb9.mono hs8))
    have hs9 := HN9.out.size
    clear hb9 x0 x1 x2 x3
    go_wp2_with fail
    refine (alive_any _ (HTW.out _ HN9.out)).mono ?_
    rintro e w10 ⟨rfl, hb10⟩
    have HN10 := Lib.hid (HN9.out.trans (hb10.mono hs9))
    clear hb10
    go_wp2_with fail
    go_ret
    exact ⟨rfl, HB0.out.trans (HN10.out.mono (Nat.le_of_lt hl0))⟩

set_option maxRecDepth 100000 in
set_option maxHeartbeats 8000000 in
theorem sorts5 (u v t : V) (x y z : Value) (w : World) (hx : IsV w.heap.size w u x) (hy : IsV w.heap.size w v y) (hz : IsV w.heap.size w t z) (hok : u.Ok) (hok2 : v.Ok) (hok3 : t.Ok) (htab : ∀ w', Below w.heap.size w w' → Tab w')
    (hm : orderV u v = (-1)) (hn : orderV v t = 0) (hk : orderV u t = (-1)) :
    Calls Tryz.prog 4 #[x, y, z] w fun e w' => e = .returned (.bool true) ∧ Below w.heap.size w w' := by
  have HV0 := Lib.hid hx
  have HV1 := Lib.hid hy
  have HV2 := Lib.hid hz
  have HO0 := Lib.hid hok
  have HO1 := Lib.hid hok2
  have HO2 := Lib.hid hok3
  have HTAB := Lib.hid htab
  have HM := Lib.hid hm
  have HNN := Lib.hid hn
  have HKK := Lib.hid hk
  have HM2 := Lib.hid (show orderV v u = 1 from by have h := order_turn u v; omega)
  have HS := Lib.hid (order_self u)
  obtain ⟨a, cap, rfl, hcap, _⟩ := hx.open
  obtain ⟨a2, cap2, rfl, hcap2, _⟩ := hy.open
  obtain ⟨a3, cap3, rfl, hcap3, _⟩ := hz.open
  have hlen := ok_len hok
  have hlen2 := ok_len hok2
  have hlen3 := ok_len hok3
  obtain ⟨W0, hW0, hb0, hb1, hb2, hz0, hB0⟩ := three_boxed w #[.int .i64 u.k, .int .i64 u.n, .string u.s, .slice a u.ps.length cap] #[.int .i64 v.k, .int .i64 v.n, .string v.s, .slice a2 v.ps.length cap2] #[.int .i64 t.k, .int .i64 t.n, .string t.s, .slice a3 t.ps.length cap3] 24
  have HW0 := Lib.hid hW0
  have HB0 := Lib.hid hB0
  have Hb0 := Lib.hid hb0
  have Hb1 := Lib.hid hb1
  have Hb2 := Lib.hid hb2
  have hl0 : w.heap.size < W0.heap.size := by omega
  have hl1 : w.heap.size + 1 < W0.heap.size := by omega
  have hl2 : w.heap.size + 1 + 1 < W0.heap.size := by omega
  have HTW := Lib.hid (show ∀ w', Below W0.heap.size W0 w' → ∀ w'', Below w'.heap.size w' w'' → Tab w'' from fun w' h w'' h2 => HTAB.out _ (((HB0.out).trans (h.mono (by omega))).trans (h2.mono (by have := h.size; omega))))
  clear hx hy hz hok hok2 hok3 hm hn hk hW0 hB0 hb0 hb1 hb2 htab
  go_enter Tryz.func4, Tryz.ntmps4
  go_wp2_with fail
  rw [← HW0.out]
  go_upto_region 1 with fail
  go_cut [7, 8, 9] (fun s7 s8 s9 wx => s7 = .int .i64 (-1) ∧ s8 = .int .i64 0 ∧ s9 = .int .i64 (-1) ∧ Below W0.heap.size W0 wx)
  case first =>
    go_region_held3 (fun w' => Below W0.heap.size W0 w' ∧ w'.cell? ⟨w.heap.size, 0, none⟩ = some (.int .i64 u.k) ∧ w'.cell? ⟨w.heap.size, 1, none⟩ = some (.int .i64 u.n) ∧ w'.cell? ⟨w.heap.size, 2, none⟩ = some (.string u.s) ∧ w'.cell? ⟨w.heap.size, 3, none⟩ = some (.slice a u.ps.length cap) ∧ w'.cell? ⟨w.heap.size + 1, 0, none⟩ = some (.int .i64 v.k) ∧ w'.cell? ⟨w.heap.size + 1, 1, none⟩ = some (.int .i64 v.n) ∧ w'.cell? ⟨w.heap.size + 1, 2, none⟩ = some (.string v.s) ∧ w'.cell? ⟨w.heap.size + 1, 3, none⟩ = some (.slice a2 v.ps.length cap2) ∧ w'.cell? ⟨w.heap.size + 1 + 1, 0, none⟩ = some (.int .i64 t.k) ∧ w'.cell? ⟨w.heap.size + 1 + 1, 1, none⟩ = some (.int .i64 t.n) ∧ w'.cell? ⟨w.heap.size + 1 + 1, 2, none⟩ = some (.string t.s) ∧ w'.cell? ⟨w.heap.size + 1 + 1, 3, none⟩ = some (.slice a3 t.ps.length cap3)) (first | exact three_held (Below.refl _ _).drew Hb0.out Hb1.out Hb2.out hl0 hl1 hl2 | exact three_held (by assumption) Hb0.out Hb1.out Hb2.out hl0 hl1 hl2) (first | (go_at_call 14; obtain ⟨hSB, hSr⟩ := ‹Below W0.heap.size W0 _ ∧ _›; ((with_reducible refine (order_at HM.out (.agg #[.int .i64 u.k, .int .i64 u.n, .string u.s, .slice a u.ps.length cap]) (.agg #[.int .i64 v.k, .int .i64 v.n, .string v.s, .slice a2 v.ps.length cap2]) w.heap.size _ (HV0.out.below (HB0.out.trans (hSB.mono (Nat.le_of_lt hl0)))) (HV1.out.below (HB0.out.trans (hSB.mono (Nat.le_of_lt hl0)))) (Nat.le_trans (Nat.le_of_lt hl0) hSB.size) HO0.out HO1.out).mono ?_); rintro e w8 ⟨rfl, hb8⟩; have hN8 : Below W0.heap.size W0 w8 := hSB.trans (hb8.mono hSB.size); clear hb8 hSB hSr)) | (go_at_call 14; obtain ⟨hSB, hSr⟩ := ‹Below W0.heap.size W0 _ ∧ _›; ((with_reducible refine (order_at HNN.out (.agg #[.int .i64 v.k, .int .i64 v.n, .string v.s, .slice a2 v.ps.length cap2]) (.agg #[.int .i64 t.k, .int .i64 t.n, .string t.s, .slice a3 t.ps.length cap3]) w.heap.size _ (HV1.out.below (HB0.out.trans (hSB.mono (Nat.le_of_lt hl0)))) (HV2.out.below (HB0.out.trans (hSB.mono (Nat.le_of_lt hl0)))) (Nat.le_trans (Nat.le_of_lt hl0) hSB.size) HO1.out HO2.out).mono ?_); rintro e w8 ⟨rfl, hb8⟩; have hN8 : Below W0.heap.size W0 w8 := hSB.trans (hb8.mono hSB.size); clear hb8 hSB hSr)) | (go_at_call 14; obtain ⟨hSB, hSr⟩ := ‹Below W0.heap.size W0 _ ∧ _›; ((with_reducible refine (order_at HKK.out (.agg #[.int .i64 u.k, .int .i64 u.n, .string u.s, .slice a u.ps.length cap]) (.agg #[.int .i64 t.k, .int .i64 t.n, .string t.s, .slice a3 t.ps.length cap3]) w.heap.size _ (HV0.out.below (HB0.out.trans (hSB.mono (Nat.le_of_lt hl0)))) (HV2.out.below (HB0.out.trans (hSB.mono (Nat.le_of_lt hl0)))) (Nat.le_trans (Nat.le_of_lt hl0) hSB.size) HO0.out HO2.out).mono ?_); rintro e w8 ⟨rfl, hb8⟩; have hN8 : Below W0.heap.size W0 w8 := hSB.trans (hb8.mono hSB.size); clear hb8 hSB hSr)))
    all_goals
      have hN := ‹Below W0.heap.size W0 _ ∧ _›.1
      go_wp2_with fail
      go_meet
      exact ⟨rfl, rfl, rfl, hN⟩
  case rest =>
    obtain ⟨rfl, rfl, rfl, hN⟩ := hcut
    have HN := Lib.hid hN
    obtain ⟨_, x0, x1, x2, x3, y0, y1, y2, y3, _, _, _, _⟩ := three_held hN Hb0.out Hb1.out Hb2.out hl0 hl1 hl2
    have hs0 := hN.size
    clear hN
    go_wp2_with fail
    refine (order_at HM2.out (.agg #[.int .i64 v.k, .int .i64 v.n, .string v.s, .slice a2 v.ps.length cap2]) (.agg #[.int .i64 u.k, .int .i64 u.n, .string u.s, .slice a u.ps.length cap]) w.heap.size _ (HV1.out.below (HB0.out.trans (HN.out.mono (Nat.le_of_lt hl0)))) (HV0.out.below (HB0.out.trans (HN.out.mono (Nat.le_of_lt hl0)))) (by omega) HO1.out HO0.out).mono ?_
    rintro e w8 ⟨rfl, hb8⟩
    have HN8 := Lib.hid (HN.out.trans (hb8.mono hs0))
    clear hb8 x0 x1 x2 x3 y0 y1 y2 y3
    obtain ⟨_, x0, x1, x2, x3, _, _, _, _, _, _, _, _⟩ := three_held HN8.out Hb0.out Hb1.out Hb2.out hl0 hl1 hl2
    have hs8 := HN8.out.size
    go_wp2_with fail
    refine (order_at HS.out (.agg #[.int .i64 u.k, .int .i64 u.n, .string u.s, .slice a u.ps.length cap]) (.agg #[.int .i64 u.k, .int .i64 u.n, .string u.s, .slice a u.ps.length cap]) w.heap.size _ (HV0.out.below (HB0.out.trans (HN8.out.mono (Nat.le_of_lt hl0)))) (HV0.out.below (HB0.out.trans (HN8.out.mono (Nat.le_of_lt hl0)))) (by omega) HO0.out HO0.out).mono ?_
    rintro e w9 ⟨rfl, hb9⟩
    have HN9 := Lib.hid (HN8.out.trans (hb9.mono hs8))
    have hs9 := HN9.out.size
    clear hb9 x0 x1 x2 x3
    go_wp2_with fail
    refine (alive_any _ (HTW.out _ HN9.out)).mono ?_
    rintro e w10 ⟨rfl, hb10⟩
    have HN10 := Lib.hid (HN9.out.trans (hb10.mono hs9))
    clear hb10
    go_wp2_with fail
    go_ret
    exact ⟨rfl, HB0.out.trans (HN10.out.mono (Nat.le_of_lt hl0))⟩

set_option maxRecDepth 100000 in
set_option maxHeartbeats 8000000 in
theorem sorts6 (u v t : V) (x y z : Value) (w : World) (hx : IsV w.heap.size w u x) (hy : IsV w.heap.size w v y) (hz : IsV w.heap.size w t z) (hok : u.Ok) (hok2 : v.Ok) (hok3 : t.Ok) (htab : ∀ w', Below w.heap.size w w' → Tab w')
    (hm : orderV u v = 0) (hn : orderV v t = (-1)) (hk : orderV u t = (-1)) :
    Calls Tryz.prog 4 #[x, y, z] w fun e w' => e = .returned (.bool true) ∧ Below w.heap.size w w' := by
  have HV0 := Lib.hid hx
  have HV1 := Lib.hid hy
  have HV2 := Lib.hid hz
  have HO0 := Lib.hid hok
  have HO1 := Lib.hid hok2
  have HO2 := Lib.hid hok3
  have HTAB := Lib.hid htab
  have HM := Lib.hid hm
  have HNN := Lib.hid hn
  have HKK := Lib.hid hk
  have HM2 := Lib.hid (show orderV v u = 0 from by have h := order_turn u v; omega)
  have HS := Lib.hid (order_self u)
  obtain ⟨a, cap, rfl, hcap, _⟩ := hx.open
  obtain ⟨a2, cap2, rfl, hcap2, _⟩ := hy.open
  obtain ⟨a3, cap3, rfl, hcap3, _⟩ := hz.open
  have hlen := ok_len hok
  have hlen2 := ok_len hok2
  have hlen3 := ok_len hok3
  obtain ⟨W0, hW0, hb0, hb1, hb2, hz0, hB0⟩ := three_boxed w #[.int .i64 u.k, .int .i64 u.n, .string u.s, .slice a u.ps.length cap] #[.int .i64 v.k, .int .i64 v.n, .string v.s, .slice a2 v.ps.length cap2] #[.int .i64 t.k, .int .i64 t.n, .string t.s, .slice a3 t.ps.length cap3] 24
  have HW0 := Lib.hid hW0
  have HB0 := Lib.hid hB0
  have Hb0 := Lib.hid hb0
  have Hb1 := Lib.hid hb1
  have Hb2 := Lib.hid hb2
  have hl0 : w.heap.size < W0.heap.size := by omega
  have hl1 : w.heap.size + 1 < W0.heap.size := by omega
  have hl2 : w.heap.size + 1 + 1 < W0.heap.size := by omega
  have HTW := Lib.hid (show ∀ w', Below W0.heap.size W0 w' → ∀ w'', Below w'.heap.size w' w'' → Tab w'' from fun w' h w'' h2 => HTAB.out _ (((HB0.out).trans (h.mono (by omega))).trans (h2.mono (by have := h.size; omega))))
  clear hx hy hz hok hok2 hok3 hm hn hk hW0 hB0 hb0 hb1 hb2 htab
  go_enter Tryz.func4, Tryz.ntmps4
  go_wp2_with fail
  rw [← HW0.out]
  go_upto_region 1 with fail
  go_cut [7, 8, 9] (fun s7 s8 s9 wx => s7 = .int .i64 0 ∧ s8 = .int .i64 (-1) ∧ s9 = .int .i64 (-1) ∧ Below W0.heap.size W0 wx)
  case first =>
    go_region_held3 (fun w' => Below W0.heap.size W0 w' ∧ w'.cell? ⟨w.heap.size, 0, none⟩ = some (.int .i64 u.k) ∧ w'.cell? ⟨w.heap.size, 1, none⟩ = some (.int .i64 u.n) ∧ w'.cell? ⟨w.heap.size, 2, none⟩ = some (.string u.s) ∧ w'.cell? ⟨w.heap.size, 3, none⟩ = some (.slice a u.ps.length cap) ∧ w'.cell? ⟨w.heap.size + 1, 0, none⟩ = some (.int .i64 v.k) ∧ w'.cell? ⟨w.heap.size + 1, 1, none⟩ = some (.int .i64 v.n) ∧ w'.cell? ⟨w.heap.size + 1, 2, none⟩ = some (.string v.s) ∧ w'.cell? ⟨w.heap.size + 1, 3, none⟩ = some (.slice a2 v.ps.length cap2) ∧ w'.cell? ⟨w.heap.size + 1 + 1, 0, none⟩ = some (.int .i64 t.k) ∧ w'.cell? ⟨w.heap.size + 1 + 1, 1, none⟩ = some (.int .i64 t.n) ∧ w'.cell? ⟨w.heap.size + 1 + 1, 2, none⟩ = some (.string t.s) ∧ w'.cell? ⟨w.heap.size + 1 + 1, 3, none⟩ = some (.slice a3 t.ps.length cap3)) (first | exact three_held (Below.refl _ _).drew Hb0.out Hb1.out Hb2.out hl0 hl1 hl2 | exact three_held (by assumption) Hb0.out Hb1.out Hb2.out hl0 hl1 hl2) (first | (go_at_call 14; obtain ⟨hSB, hSr⟩ := ‹Below W0.heap.size W0 _ ∧ _›; ((with_reducible refine (order_at HM.out (.agg #[.int .i64 u.k, .int .i64 u.n, .string u.s, .slice a u.ps.length cap]) (.agg #[.int .i64 v.k, .int .i64 v.n, .string v.s, .slice a2 v.ps.length cap2]) w.heap.size _ (HV0.out.below (HB0.out.trans (hSB.mono (Nat.le_of_lt hl0)))) (HV1.out.below (HB0.out.trans (hSB.mono (Nat.le_of_lt hl0)))) (Nat.le_trans (Nat.le_of_lt hl0) hSB.size) HO0.out HO1.out).mono ?_); rintro e w8 ⟨rfl, hb8⟩; have hN8 : Below W0.heap.size W0 w8 := hSB.trans (hb8.mono hSB.size); clear hb8 hSB hSr)) | (go_at_call 14; obtain ⟨hSB, hSr⟩ := ‹Below W0.heap.size W0 _ ∧ _›; ((with_reducible refine (order_at HNN.out (.agg #[.int .i64 v.k, .int .i64 v.n, .string v.s, .slice a2 v.ps.length cap2]) (.agg #[.int .i64 t.k, .int .i64 t.n, .string t.s, .slice a3 t.ps.length cap3]) w.heap.size _ (HV1.out.below (HB0.out.trans (hSB.mono (Nat.le_of_lt hl0)))) (HV2.out.below (HB0.out.trans (hSB.mono (Nat.le_of_lt hl0)))) (Nat.le_trans (Nat.le_of_lt hl0) hSB.size) HO1.out HO2.out).mono ?_); rintro e w8 ⟨rfl, hb8⟩; have hN8 : Below W0.heap.size W0 w8 := hSB.trans (hb8.mono hSB.size); clear hb8 hSB hSr)) | (go_at_call 14; obtain ⟨hSB, hSr⟩ := ‹Below W0.heap.size W0 _ ∧ _›; ((with_reducible refine (order_at HKK.out (.agg #[.int .i64 u.k, .int .i64 u.n, .string u.s, .slice a u.ps.length cap]) (.agg #[.int .i64 t.k, .int .i64 t.n, .string t.s, .slice a3 t.ps.length cap3]) w.heap.size _ (HV0.out.below (HB0.out.trans (hSB.mono (Nat.le_of_lt hl0)))) (HV2.out.below (HB0.out.trans (hSB.mono (Nat.le_of_lt hl0)))) (Nat.le_trans (Nat.le_of_lt hl0) hSB.size) HO0.out HO2.out).mono ?_); rintro e w8 ⟨rfl, hb8⟩; have hN8 : Below W0.heap.size W0 w8 := hSB.trans (hb8.mono hSB.size); clear hb8 hSB hSr)))
    all_goals
      have hN := ‹Below W0.heap.size W0 _ ∧ _›.1
      go_wp2_with fail
      go_meet
      exact ⟨rfl, rfl, rfl, hN⟩
  case rest =>
    obtain ⟨rfl, rfl, rfl, hN⟩ := hcut
    have HN := Lib.hid hN
    obtain ⟨_, x0, x1, x2, x3, y0, y1, y2, y3, _, _, _, _⟩ := three_held hN Hb0.out Hb1.out Hb2.out hl0 hl1 hl2
    have hs0 := hN.size
    clear hN
    go_wp2_with fail
    refine (order_at HM2.out (.agg #[.int .i64 v.k, .int .i64 v.n, .string v.s, .slice a2 v.ps.length cap2]) (.agg #[.int .i64 u.k, .int .i64 u.n, .string u.s, .slice a u.ps.length cap]) w.heap.size _ (HV1.out.below (HB0.out.trans (HN.out.mono (Nat.le_of_lt hl0)))) (HV0.out.below (HB0.out.trans (HN.out.mono (Nat.le_of_lt hl0)))) (by omega) HO1.out HO0.out).mono ?_
    rintro e w8 ⟨rfl, hb8⟩
    have HN8 := Lib.hid (HN.out.trans (hb8.mono hs0))
    clear hb8 x0 x1 x2 x3 y0 y1 y2 y3
    obtain ⟨_, x0, x1, x2, x3, _, _, _, _, _, _, _, _⟩ := three_held HN8.out Hb0.out Hb1.out Hb2.out hl0 hl1 hl2
    have hs8 := HN8.out.size
    go_wp2_with fail
    refine (order_at HS.out (.agg #[.int .i64 u.k, .int .i64 u.n, .string u.s, .slice a u.ps.length cap]) (.agg #[.int .i64 u.k, .int .i64 u.n, .string u.s, .slice a u.ps.length cap]) w.heap.size _ (HV0.out.below (HB0.out.trans (HN8.out.mono (Nat.le_of_lt hl0)))) (HV0.out.below (HB0.out.trans (HN8.out.mono (Nat.le_of_lt hl0)))) (by omega) HO0.out HO0.out).mono ?_
    rintro e w9 ⟨rfl, hb9⟩
    have HN9 := Lib.hid (HN8.out.trans (hb9.mono hs8))
    have hs9 := HN9.out.size
    clear hb9 x0 x1 x2 x3
    go_wp2_with fail
    refine (alive_any _ (HTW.out _ HN9.out)).mono ?_
    rintro e w10 ⟨rfl, hb10⟩
    have HN10 := Lib.hid (HN9.out.trans (hb10.mono hs9))
    clear hb10
    go_wp2_with fail
    go_ret
    exact ⟨rfl, HB0.out.trans (HN10.out.mono (Nat.le_of_lt hl0))⟩

set_option maxRecDepth 100000 in
set_option maxHeartbeats 8000000 in
theorem sorts7 (u v t : V) (x y z : Value) (w : World) (hx : IsV w.heap.size w u x) (hy : IsV w.heap.size w v y) (hz : IsV w.heap.size w t z) (hok : u.Ok) (hok2 : v.Ok) (hok3 : t.Ok) (htab : ∀ w', Below w.heap.size w w' → Tab w')
    (hm : orderV u v = (-1)) (hn : orderV v t = (-1)) (hk : orderV u t = (-1)) :
    Calls Tryz.prog 4 #[x, y, z] w fun e w' => e = .returned (.bool true) ∧ Below w.heap.size w w' := by
  have HV0 := Lib.hid hx
  have HV1 := Lib.hid hy
  have HV2 := Lib.hid hz
  have HO0 := Lib.hid hok
  have HO1 := Lib.hid hok2
  have HO2 := Lib.hid hok3
  have HTAB := Lib.hid htab
  have HM := Lib.hid hm
  have HNN := Lib.hid hn
  have HKK := Lib.hid hk
  have HM2 := Lib.hid (show orderV v u = 1 from by have h := order_turn u v; omega)
  have HS := Lib.hid (order_self u)
  obtain ⟨a, cap, rfl, hcap, _⟩ := hx.open
  obtain ⟨a2, cap2, rfl, hcap2, _⟩ := hy.open
  obtain ⟨a3, cap3, rfl, hcap3, _⟩ := hz.open
  have hlen := ok_len hok
  have hlen2 := ok_len hok2
  have hlen3 := ok_len hok3
  obtain ⟨W0, hW0, hb0, hb1, hb2, hz0, hB0⟩ := three_boxed w #[.int .i64 u.k, .int .i64 u.n, .string u.s, .slice a u.ps.length cap] #[.int .i64 v.k, .int .i64 v.n, .string v.s, .slice a2 v.ps.length cap2] #[.int .i64 t.k, .int .i64 t.n, .string t.s, .slice a3 t.ps.length cap3] 24
  have HW0 := Lib.hid hW0
  have HB0 := Lib.hid hB0
  have Hb0 := Lib.hid hb0
  have Hb1 := Lib.hid hb1
  have Hb2 := Lib.hid hb2
  have hl0 : w.heap.size < W0.heap.size := by omega
  have hl1 : w.heap.size + 1 < W0.heap.size := by omega
  have hl2 : w.heap.size + 1 + 1 < W0.heap.size := by omega
  have HTW := Lib.hid (show ∀ w', Below W0.heap.size W0 w' → ∀ w'', Below w'.heap.size w' w'' → Tab w'' from fun w' h w'' h2 => HTAB.out _ (((HB0.out).trans (h.mono (by omega))).trans (h2.mono (by have := h.size; omega))))
  clear hx hy hz hok hok2 hok3 hm hn hk hW0 hB0 hb0 hb1 hb2 htab
  go_enter Tryz.func4, Tryz.ntmps4
  go_wp2_with fail
  rw [← HW0.out]
  go_upto_region 1 with fail
  go_cut [7, 8, 9] (fun s7 s8 s9 wx => s7 = .int .i64 (-1) ∧ s8 = .int .i64 (-1) ∧ s9 = .int .i64 (-1) ∧ Below W0.heap.size W0 wx)
  case first =>
    go_region_held3 (fun w' => Below W0.heap.size W0 w' ∧ w'.cell? ⟨w.heap.size, 0, none⟩ = some (.int .i64 u.k) ∧ w'.cell? ⟨w.heap.size, 1, none⟩ = some (.int .i64 u.n) ∧ w'.cell? ⟨w.heap.size, 2, none⟩ = some (.string u.s) ∧ w'.cell? ⟨w.heap.size, 3, none⟩ = some (.slice a u.ps.length cap) ∧ w'.cell? ⟨w.heap.size + 1, 0, none⟩ = some (.int .i64 v.k) ∧ w'.cell? ⟨w.heap.size + 1, 1, none⟩ = some (.int .i64 v.n) ∧ w'.cell? ⟨w.heap.size + 1, 2, none⟩ = some (.string v.s) ∧ w'.cell? ⟨w.heap.size + 1, 3, none⟩ = some (.slice a2 v.ps.length cap2) ∧ w'.cell? ⟨w.heap.size + 1 + 1, 0, none⟩ = some (.int .i64 t.k) ∧ w'.cell? ⟨w.heap.size + 1 + 1, 1, none⟩ = some (.int .i64 t.n) ∧ w'.cell? ⟨w.heap.size + 1 + 1, 2, none⟩ = some (.string t.s) ∧ w'.cell? ⟨w.heap.size + 1 + 1, 3, none⟩ = some (.slice a3 t.ps.length cap3)) (first | exact three_held (Below.refl _ _).drew Hb0.out Hb1.out Hb2.out hl0 hl1 hl2 | exact three_held (by assumption) Hb0.out Hb1.out Hb2.out hl0 hl1 hl2) (first | (go_at_call 14; obtain ⟨hSB, hSr⟩ := ‹Below W0.heap.size W0 _ ∧ _›; ((with_reducible refine (order_at HM.out (.agg #[.int .i64 u.k, .int .i64 u.n, .string u.s, .slice a u.ps.length cap]) (.agg #[.int .i64 v.k, .int .i64 v.n, .string v.s, .slice a2 v.ps.length cap2]) w.heap.size _ (HV0.out.below (HB0.out.trans (hSB.mono (Nat.le_of_lt hl0)))) (HV1.out.below (HB0.out.trans (hSB.mono (Nat.le_of_lt hl0)))) (Nat.le_trans (Nat.le_of_lt hl0) hSB.size) HO0.out HO1.out).mono ?_); rintro e w8 ⟨rfl, hb8⟩; have hN8 : Below W0.heap.size W0 w8 := hSB.trans (hb8.mono hSB.size); clear hb8 hSB hSr)) | (go_at_call 14; obtain ⟨hSB, hSr⟩ := ‹Below W0.heap.size W0 _ ∧ _›; ((with_reducible refine (order_at HNN.out (.agg #[.int .i64 v.k, .int .i64 v.n, .string v.s, .slice a2 v.ps.length cap2]) (.agg #[.int .i64 t.k, .int .i64 t.n, .string t.s, .slice a3 t.ps.length cap3]) w.heap.size _ (HV1.out.below (HB0.out.trans (hSB.mono (Nat.le_of_lt hl0)))) (HV2.out.below (HB0.out.trans (hSB.mono (Nat.le_of_lt hl0)))) (Nat.le_trans (Nat.le_of_lt hl0) hSB.size) HO1.out HO2.out).mono ?_); rintro e w8 ⟨rfl, hb8⟩; have hN8 : Below W0.heap.size W0 w8 := hSB.trans (hb8.mono hSB.size); clear hb8 hSB hSr)) | (go_at_call 14; obtain ⟨hSB, hSr⟩ := ‹Below W0.heap.size W0 _ ∧ _›; ((with_reducible refine (order_at HKK.out (.agg #[.int .i64 u.k, .int .i64 u.n, .string u.s, .slice a u.ps.length cap]) (.agg #[.int .i64 t.k, .int .i64 t.n, .string t.s, .slice a3 t.ps.length cap3]) w.heap.size _ (HV0.out.below (HB0.out.trans (hSB.mono (Nat.le_of_lt hl0)))) (HV2.out.below (HB0.out.trans (hSB.mono (Nat.le_of_lt hl0)))) (Nat.le_trans (Nat.le_of_lt hl0) hSB.size) HO0.out HO2.out).mono ?_); rintro e w8 ⟨rfl, hb8⟩; have hN8 : Below W0.heap.size W0 w8 := hSB.trans (hb8.mono hSB.size); clear hb8 hSB hSr)))
    all_goals
      have hN := ‹Below W0.heap.size W0 _ ∧ _›.1
      go_wp2_with fail
      go_meet
      exact ⟨rfl, rfl, rfl, hN⟩
  case rest =>
    obtain ⟨rfl, rfl, rfl, hN⟩ := hcut
    have HN := Lib.hid hN
    obtain ⟨_, x0, x1, x2, x3, y0, y1, y2, y3, _, _, _, _⟩ := three_held hN Hb0.out Hb1.out Hb2.out hl0 hl1 hl2
    have hs0 := hN.size
    clear hN
    go_wp2_with fail
    refine (order_at HM2.out (.agg #[.int .i64 v.k, .int .i64 v.n, .string v.s, .slice a2 v.ps.length cap2]) (.agg #[.int .i64 u.k, .int .i64 u.n, .string u.s, .slice a u.ps.length cap]) w.heap.size _ (HV1.out.below (HB0.out.trans (HN.out.mono (Nat.le_of_lt hl0)))) (HV0.out.below (HB0.out.trans (HN.out.mono (Nat.le_of_lt hl0)))) (by omega) HO1.out HO0.out).mono ?_
    rintro e w8 ⟨rfl, hb8⟩
    have HN8 := Lib.hid (HN.out.trans (hb8.mono hs0))
    clear hb8 x0 x1 x2 x3 y0 y1 y2 y3
    obtain ⟨_, x0, x1, x2, x3, _, _, _, _, _, _, _, _⟩ := three_held HN8.out Hb0.out Hb1.out Hb2.out hl0 hl1 hl2
    have hs8 := HN8.out.size
    go_wp2_with fail
    refine (order_at HS.out (.agg #[.int .i64 u.k, .int .i64 u.n, .string u.s, .slice a u.ps.length cap]) (.agg #[.int .i64 u.k, .int .i64 u.n, .string u.s, .slice a u.ps.length cap]) w.heap.size _ (HV0.out.below (HB0.out.trans (HN8.out.mono (Nat.le_of_lt hl0)))) (HV0.out.below (HB0.out.trans (HN8.out.mono (Nat.le_of_lt hl0)))) (by omega) HO0.out HO0.out).mono ?_
    rintro e w9 ⟨rfl, hb9⟩
    have HN9 := Lib.hid (HN8.out.trans (hb9.mono hs8))
    have hs9 := HN9.out.size
    clear hb9 x0 x1 x2 x3
    go_wp2_with fail
    refine (alive_any _ (HTW.out _ HN9.out)).mono ?_
    rintro e w10 ⟨rfl, hb10⟩
    have HN10 := Lib.hid (HN9.out.trans (hb10.mono hs9))
    clear hb10
    go_wp2_with fail
    go_ret
    exact ⟨rfl, HB0.out.trans (HN10.out.mono (Nat.le_of_lt hl0))⟩

theorem sorts_walk (u v t : V) (x y z : Value) (w : World) (hx : IsV w.heap.size w u x) (hy : IsV w.heap.size w v y) (hz : IsV w.heap.size w t z) (hok : u.Ok) (hok2 : v.Ok) (hok3 : t.Ok) (htab : ∀ w', Below w.heap.size w w' → Tab w') :
    Calls Tryz.prog 4 #[x, y, z] w fun e w' => e = .returned (.bool true) ∧ Below w.heap.size w w' := by
  have h1 := orderV_bd u v
  have h2 := orderV_bd v t
  have h3 := orderV_bd u t
  have h4 := order_tri u v t
  unfold Tri at h4
  have hm : orderV u v = -1 ∨ orderV u v = 0 ∨ orderV u v = 1 := by omega
  have hn : orderV v t = -1 ∨ orderV v t = 0 ∨ orderV v t = 1 := by omega
  rcases hm with hm | hm | hm
  · rcases hn with hn | hn | hn
    · exact sorts7 u v t x y z w hx hy hz hok hok2 hok3 htab hm hn (by have := h4 (by omega) (by omega); omega)
    · exact sorts5 u v t x y z w hx hy hz hok hok2 hok3 htab hm hn (by have := h4 (by omega) (by omega); omega)
    · exact sorts2 u v t x y z _ w hx hy hz hok hok2 hok3 htab hm hn rfl
  · rcases hn with hn | hn | hn
    · exact sorts6 u v t x y z w hx hy hz hok hok2 hok3 htab hm hn (by have := h4 (by omega) (by omega); omega)
    · exact sorts4 u v t x y z w hx hy hz hok hok2 hok3 htab hm hn (by have := h4 (by omega) (by omega); omega)
    · exact sorts3 u v t x y z _ w hx hy hz hok hok2 hok3 htab hm hn rfl
  · exact sorts1 u v t x y z _ _ w hx hy hz hok hok2 hok3 htab hm rfl rfl
end Go.Proofs.YtnddcicadmbmkaaGreatDoor
