/- Get of a store. -/
import Derived.Test.YtnddcicadmbmkaaGreatDoorE6
namespace Go.Proofs.YtnddcicadmbmkaaGreatDoor
open Go.RowKit Go.Maps

/-- what Get leaves -/
def GGet (m : Nat) (v : V) (st : St) (rb nb : Option Nat) (w : World) (e : Ending) (w' : World) : Prop :=
  e = .returned (.tuple #[.int .i64 (getV v st).1, .bool ((getV v st).2.1 == 0)]) ∧ ∃ rb' nb', Stor w' m st rb' nb' ∧ Later w.heap.size rb rb' ∧ Later w.heap.size nb nb' ∧ Sy.Fr (SFoot m rb nb) w w'
set_option maxRecDepth 100000 in
set_option maxHeartbeats 1000000 in
theorem sget_any (v : V) (x : Value) (m : Nat) (P : Nat → Prop) (st : St) (rb nb : Option Nat) (w : World) (hst : Stor w m st rb nb) (hx : IsVP P w v x) (hfar : Far P w m rb nb) (hok : v.Ok) (hr : rightV v = true) :
    Calls Tryz.prog 28 #[.pointer (some ⟨m + 3, 0, none⟩), x] w (GGet m v st rb nb w) := by
  obtain ⟨a, cap, rfl, hcap, hel⟩ := hx.open
  have hms := hst.rows.2.2
  have hmay : mayV v 0 = true := by rw [right_eq] at hr; simp at hr; exact hr.2
  have HX := Lib.hid hx
  have HFAR := Lib.hid hfar
  have HOK := Lib.hid hok
  have HR := Lib.hid hr
  have HM := Lib.hid hmay
  have HST := Lib.hid hst
  obtain ⟨W0, hW0⟩ : ∃ W0, W0 = w.alloc (.cells #[.int .i64 v.k, .int .i64 v.n, .string v.s, .slice a v.ps.length cap] 24) := ⟨_, rfl⟩
  have hb0 : W0.heap[w.heap.size]? = some (.cells #[.int .i64 v.k, .int .i64 v.n, .string v.s, .slice a v.ps.length cap] 24 (0, 0)) := by rw [hW0]; exact heap_alloc_new _ _
  have hB0 : Below w.heap.size w W0 := by rw [hW0]; exact (Below.refl _ _).alloc (Nat.le_refl _) _
  have hs0 := stor_new hst hB0
  have hmap : W0.cell? ⟨m + 3, 2, none⟩ = some (.map (some (m + 2))) := by obtain ⟨_, _, _, _, _, _, h⟩ := hs0; exact h.c.2.2
  obtain ⟨c0, c1, c2, c3⟩ := block4 hb0
  have HW0 := Lib.hid hW0
  have Hb0 := Lib.hid hb0
  have HB0 := Lib.hid hB0
  have HS0 := Lib.hid hs0
  have hz0 : w.heap.size < W0.heap.size := heap_lt hb0
  have qT : ∀ (w : World) (r : Option Nat), (binOp .eql 55 (.map r) (.map none)).run Tryz.prog w = .ok (.bool r.isNone) w := fun w r => run_eql_map_nil w _ _ _ r Tryz.underlying55
  have hmap' : (w.alloc (.cells #[.int .i64 v.k, .int .i64 v.n, .string v.s, .slice a v.ps.length cap] 24)).cell? ⟨m + 3, 2, none⟩ = some (.map (some (m + 2))) := by rw [← hW0]; exact hmap
  clear hW0 hb0 hB0 hs0 hx hok hr hmay hst hel hmap hfar
  go_enter Tryz.func28, Tryz.ntmps28
  go_wp2_with fail
  rw [← HW0.out]
  refine (right_at HR.out _ w.heap.size _ ((IsV.of_p HX.out (fun k hk => (HFAR.out k hk).1)).below HB0.out) (by omega) HOK.out).mono ?_
  rintro e w1 ⟨rfl, hb1⟩
  have HB1 := Lib.hid hb1
  obtain ⟨d0, d1, d2, d3⟩ := block4 ((hb1.block w.heap.size hz0).trans Hb0.out)
  have hz1 := hb1.size
  clear hb1 c0 c1 c2 c3 hmap'
  go_wp2_with fail
  refine (get_any (v.sz + 1) v _ m P 0 st rb nb w1 (Nat.lt_succ_self _) (stor_new HS0.out HB1.out) (HX.out.below HFAR.out (HB0.out.trans (HB1.out.mono (by omega)))) (HFAR.out.size (by omega)) HOK.out HM.out).mono ?_
  rintro e w2 ⟨rfl, rb', nb', hst2, hl1, hl2, hf2⟩
  have HST2 := Lib.hid hst2
  have HL1 := Lib.hid hl1
  have HL2 := Lib.hid hl2
  have HF2 := Lib.hid hf2
  obtain ⟨er, her⟩ : ∃ er, (getV v st).2.1 = er := ⟨_, rfl⟩
  obtain ⟨nm, hnm⟩ : ∃ nm, (getV v st).1 = nm := ⟨_, rfl⟩
  rw [her, hnm]
  have HER := Lib.hid her
  have HNM := Lib.hid hnm
  clear hst2 hl1 hl2 hf2 d0 d1 d2 d3 her hnm
  go_wp2_with fail
  go_ret2
  have hll : ∀ {a b : Option Nat}, Later w1.heap.size a b → Later w.heap.size a b := fun h => by
    rcases h with h | ⟨k, h, hk⟩
    · exact .inl h
    · exact .inr ⟨k, h, by omega⟩
  have hs := HST2.out
  rw [getV_st] at hs
  refine ⟨by rw [HER.out, HNM.out]; rfl, rb', nb', hs, hll HL1.out, hll HL2.out, ((Sy.Fr.of_below HB0.out).trans (Sy.Fr.of_below HB1.out)).trans HF2.out⟩
set_option maxRecDepth 100000 in
set_option maxHeartbeats 1000000 in
theorem sget_bad (v : V) (x : Value) (m : Nat) (P : Nat → Prop) (st : St) (rb nb : Option Nat) (w : World) (hst : Stor w m st rb nb) (hx : IsVP P w v x) (hfar : Far P w m rb nb) (hok : v.Ok) (hr : rightV v = false) :
    Calls Tryz.prog 28 #[.pointer (some ⟨m + 3, 0, none⟩), x] w fun e w' => e = .returned (.tuple #[.int .i64 0, .bool false]) ∧ Below w.heap.size w w' := by
  obtain ⟨a, cap, rfl, hcap, hel⟩ := hx.open
  have hms := hst.rows.2.2
  have HX := Lib.hid hx
  have HFAR := Lib.hid hfar
  have HOK := Lib.hid hok
  have HR := Lib.hid hr
  obtain ⟨W0, hW0⟩ : ∃ W0, W0 = w.alloc (.cells #[.int .i64 v.k, .int .i64 v.n, .string v.s, .slice a v.ps.length cap] 24) := ⟨_, rfl⟩
  have hb0 : W0.heap[w.heap.size]? = some (.cells #[.int .i64 v.k, .int .i64 v.n, .string v.s, .slice a v.ps.length cap] 24 (0, 0)) := by rw [hW0]; exact heap_alloc_new _ _
  have hB0 : Below w.heap.size w W0 := by rw [hW0]; exact (Below.refl _ _).alloc (Nat.le_refl _) _
  have hs0 := stor_new hst hB0
  have hmap : W0.cell? ⟨m + 3, 2, none⟩ = some (.map (some (m + 2))) := by obtain ⟨_, _, _, _, _, _, h⟩ := hs0; exact h.c.2.2
  obtain ⟨c0, c1, c2, c3⟩ := block4 hb0
  have HW0 := Lib.hid hW0
  have HB0 := Lib.hid hB0
  have hz0 : w.heap.size < W0.heap.size := heap_lt hb0
  have qT : ∀ (w : World) (r : Option Nat), (binOp .eql 55 (.map r) (.map none)).run Tryz.prog w = .ok (.bool r.isNone) w := fun w r => run_eql_map_nil w _ _ _ r Tryz.underlying55
  have hmap' : (w.alloc (.cells #[.int .i64 v.k, .int .i64 v.n, .string v.s, .slice a v.ps.length cap] 24)).cell? ⟨m + 3, 2, none⟩ = some (.map (some (m + 2))) := by rw [← hW0]; exact hmap
  clear hW0 hb0 hB0 hs0 hx hok hr hst hel hmap hfar
  go_enter Tryz.func28, Tryz.ntmps28
  go_wp2_with fail
  rw [← HW0.out]
  refine (right_at HR.out _ w.heap.size _ ((IsV.of_p HX.out (fun k hk => (HFAR.out k hk).1)).below HB0.out) (by omega) HOK.out).mono ?_
  rintro e w1 ⟨rfl, hb1⟩
  have HB1 := Lib.hid hb1
  clear hb1 c0 c1 c2 c3 hmap'
  go_wp2_with fail
  go_ret2
  exact ⟨rfl, HB0.out.trans (HB1.out.mono (by omega))⟩

end Go.Proofs.YtnddcicadmbmkaaGreatDoor
