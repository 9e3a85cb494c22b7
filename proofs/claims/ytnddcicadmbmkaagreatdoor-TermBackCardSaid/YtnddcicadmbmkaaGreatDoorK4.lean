/- TermBack's walk. A row of values handed in: opened. TermBack's walk as the row wants it. -/
import Derived.Test.YtnddcicadmbmkaaGreatDoorK3
import Derived.Test.YtnddcicadmbmkaaGreatDoorK2
import Derived.Test.YtnddcicadmbmkaaGreatDoorE5
import Derived.Test.YtnddcicadmbmkaaGreatDoorB1
import Derived.Laws.MakeOwn
import Derived.Deep.RegionHeld3
import Derived.Deep.DeepCutAuto
import Derived.Test.YtnddcicadmbmkaaGreatDoorF2
import Derived.WideShapes
namespace Go.Proofs.YtnddcicadmbmkaaGreatDoor
open Go.RowKit Go.Maps Go.WideShapes

theorem info3 : ∃ i, Tryz.prog.info? 3 = some i ∧ i.zero = some (.int .i64 0) ∧ i.size = 1 ∧ i.bytes = 8 := by
  have h : (Tryz.prog.info? 3).map (fun i => (i.zero, i.size, i.bytes)) = some (some (.int .i64 0), 1, 8) := by kernel_rfl
  cases hi : Tryz.prog.info? 3 with
  | none => rw [hi] at h; cases h
  | some i => rw [hi] at h; simp at h; exact ⟨i, rfl, h⟩
theorem make_ints (n : Nat) (h : n ≤ 200) : ∃ cs : Array Value, cs.size = n ∧ ∀ w : World, (Instr.makeSlice 49 (.int .i64 n) (.int .i64 n)).run Tryz.prog w = .ok (.slice (some ⟨w.heap.size, 0, none⟩) n n) (w.alloc (.cells cs 3)) := by
  obtain ⟨i, hi, hz, hs, hb⟩ := info3
  refine ⟨madeCells (Value.int .i64 0).cells (n * i.size), by rw [size_madeCells, hs]; omega, fun w => ?_⟩
  have := run_makeSlice (w := w) 49 3 i _ Tryz.underlying49 hi hz .i64 .i64 n n (by omega) (by omega) (by rw [hs]; simp; omega) (by rw [hb]; omega) (by omega)
  simpa using this
theorem okL_nth : ∀ {l : List V} {k : Nat}, OkL l → k < l.length → (nthV l k).Ok
  | [], _, _, h => by simp at h
  | x :: r, 0, h, _ => by unfold OkL at h; exact h.1
  | x :: r, k + 1, h, hk => by unfold OkL at h; exact okL_nth (l := r) h.2 (by simpa using hk)
theorem nthV_at : ∀ {l : List V} {k : Nat}, k < l.length → l[k]? = some (nthV l k)
  | [], _, h => by simp at h
  | x :: r, 0, _ => rfl
  | x :: r, k + 1, hk => nthV_at (l := r) (by simpa using hk)
theorem back_held {W0 w1 : World} {b c j : Nat} {x0 x1 x2 x3 : Value} {n : Int} {t t2 : TypeId} {cu : Array Value} {z : Nat × Nat} (h : Below W0.heap.size W0 w1) (h1 : W0.heap[b]? = some (.cells #[x0, x1, x2, x3] t z)) (h2 : W0.heap[c]? = some (.cells cu t2 (0, 0))) (h3 : cu[j]? = some (.int .i64 n)) :
    Below W0.heap.size W0 w1 ∧ w1.cell? ⟨b, 0, none⟩ = some x0 ∧ w1.cell? ⟨c, j, none⟩ = some (.int .i64 n) := by
  have hb := (h.block b (heap_lt h1)).trans h1
  have hc := (h.block c (heap_lt h2)).trans h2
  exact ⟨h, (block4 hb).1, by rw [cell_of hc]; exact h3⟩
theorem below_set4 {a w : World} {B : Nat} (h : Below B a w) (x0 x1 x2 x3 : Value) : Below B a ((((w.setCell ⟨B, 0, none⟩ x0).setCell ⟨B, 1, none⟩ x1).setCell ⟨B, 2, none⟩ x2).setCell ⟨B, 3, none⟩ x3) :=
  (((h.setCell (p := ⟨B, 0, none⟩) (Nat.le_refl _) _).setCell (p := ⟨B, 1, none⟩) (Nat.le_refl _) _).setCell (p := ⟨B, 2, none⟩) (Nat.le_refl _) _).setCell (p := ⟨B, 3, none⟩) (Nat.le_refl _) _
theorem below_cell {a b : World} {p : Addr} {v : Value} (h : Below a.heap.size a b) (hc : a.cell? p = some v) : b.cell? p = some v :=
  (World.cell?_of_block (h.block _ (World.block_lt_of_cell? a p hc))).trans hc
theorem alloc_lt (w : World) (o : Obj) : w.heap.size < (w.alloc o).heap.size := by simp
theorem way_alloc {w5 : World} {lo : Nat} {v : V} {x : Value} (o : Obj) (h : IsVP (fun j => lo ≤ j ∧ j < w5.heap.size) w5 v x) : IsV (w5.alloc o).heap.size (w5.alloc o) v x :=
  IsV.of_p (h.move (Q := fun j => j < (w5.alloc o).heap.size) (fun k hk => ⟨by have := hk.2; simp; omega, fun j => World.cell?_of_block (a := ⟨k, j, none⟩) (heap_alloc_old _ _ hk.2)⟩)) (fun _ h => h)
theorem way_set {w5 : World} {lo B : Nat} {v : V} {x : Value} (hlo : B < lo) (x0 x1 x2 x3 : Value) (h : IsVP (fun j => lo ≤ j ∧ j < w5.heap.size) w5 v x) :
    IsV ((((w5.setCell ⟨B, 0, none⟩ x0).setCell ⟨B, 1, none⟩ x1).setCell ⟨B, 2, none⟩ x2).setCell ⟨B, 3, none⟩ x3).heap.size ((((w5.setCell ⟨B, 0, none⟩ x0).setCell ⟨B, 1, none⟩ x1).setCell ⟨B, 2, none⟩ x2).setCell ⟨B, 3, none⟩ x3) v x :=
  IsV.of_p (h.move (Q := fun j => j < ((((w5.setCell ⟨B, 0, none⟩ x0).setCell ⟨B, 1, none⟩ x1).setCell ⟨B, 2, none⟩ x2).setCell ⟨B, 3, none⟩ x3).heap.size) (fun k hk => ⟨by have := hk.2; simpa [World.setCell] using this, fun j => World.cell?_of_block (a := ⟨k, j, none⟩) (by
    have h1 : lo ≤ k := hk.1
    rw [Below.heap_setCell _ _ _ _ (show k ≠ B by omega), Below.heap_setCell _ _ _ _ (show k ≠ B by omega), Below.heap_setCell _ _ _ _ (show k ≠ B by omega), Below.heap_setCell _ _ _ _ (show k ≠ B by omega)])⟩)) (fun _ h => h)
theorem set_all4 {w : World} {B : Nat} {y0 y1 y2 y3 : Value} {t : TypeId} (h : w.heap[B]? = some (.cells #[y0, y1, y2, y3] t (0, 0))) (x0 x1 x2 x3 : Value) :
    ((((w.setCell ⟨B, 0, none⟩ x0).setCell ⟨B, 1, none⟩ x1).setCell ⟨B, 2, none⟩ x2).setCell ⟨B, 3, none⟩ x3).heap[B]? = some (.cells #[x0, x1, x2, x3] t (0, 0)) := by
  rw [set_block (set_block (set_block (set_block h)))]; rfl
/-- a row of values handed in -/
def IsVs (B : Nat) (w : World) (l : List V) (x : Value) : Prop := ∃ a cap, x = .slice a l.length cap ∧ l.length ≤ cap ∧ (l = [] ∨ ∃ b off, a = some ⟨b, off, none⟩ ∧ b < B ∧ EltsP (fun k => k < B) w b off l)

set_option maxRecDepth 100000 in
set_option maxHeartbeats 8000000 in
theorem back_walk (l : List V) (x : Value) (w : World) (hx : IsVs w.heap.size w l x) (hlen : l.length ≤ 140737488351232) (hok : OkL l) (htab : ∀ w', Below w.heap.size w w' → Tab w') :
    Calls Tryz.prog 8 #[x] w fun e w' => e = .returned (.bool true) ∧ Below w.heap.size w w' := by
  obtain ⟨a, cap, rfl, hcap, hel⟩ := hx
  have HEL := Lib.hid hel
  have HOK := Lib.hid hok
  have HTAB := Lib.hid htab
  clear hel hok htab
  obtain ⟨N, hN⟩ : ∃ N : Nat, N = min l.length 200 := ⟨_, rfl⟩
  have hN2 : N ≤ 200 := by omega
  have hNl : N ≤ l.length := by omega
  have hmin : min (l.length : Int) 200 = N := by omega
  obtain ⟨cs, hcs, hmk⟩ := make_ints N hN2
  have HN := Lib.hid hN
  clear hN
  go_enter Tryz.func8, Tryz.ntmps8
  go_wp2_with fail
  refine (snew_any w).mono ?_
  rintro e w1 ⟨rfl, hst1, hb1, hz1⟩
  have HS1 := Lib.hid (show Stor w1 w.heap.size ([], []) none none from ⟨_, _, _, _, _, _, hst1⟩)
  have HB1 := Lib.hid hb1
  have hz1' : w.heap.size ≤ w1.heap.size := hb1.size
  have HZ1 := Lib.hid hz1
  clear hst1 hb1 hz1
  go_wp2_with fail
  refine (alive_any _ (fun w' h => HTAB.out _ (HB1.out.trans (h.mono hz1')))).mono ?_
  rintro e w2 ⟨rfl, hb2⟩
  have HS2 := Lib.hid (stor_new HS1.out hb2)
  have hz2 := hb2.size
  have HB2 := Lib.hid (HB1.out.trans (hb2.mono hz1'))
  clear hb2
  go_wp2_with fail
  obtain ⟨W3, hW3⟩ : ∃ W3, W3 = w2.alloc (.cells cs 3) := ⟨_, rfl⟩
  rw [← hW3]
  have hB3 : Below w2.heap.size w2 W3 := by rw [hW3]; exact (Below.refl _ _).alloc (Nat.le_refl _) _
  have hb3 : W3.heap[w2.heap.size]? = some (.cells cs 3 (0, 0)) := by rw [hW3]; exact heap_alloc_new _ _
  have HS3 := Lib.hid (stor_new HS2.out hB3)
  have HB3 := Lib.hid (HB2.out.trans (hB3.mono (by omega)))
  have Hb3 := Lib.hid hb3
  have HA3 := Lib.hid (show ¬ SFoot w.heap.size none none w2.heap.size from HS2.out.apart (Nat.le_refl _))
  clear hW3 hB3 hb3 hmin hmk
  go_loopw [31] (fun i wr => ∃ (k : Nat) (ns : List Int) (stk : St) (rbk nbk : Option Nat) (cur : Array Value), k ≤ N ∧ i = .int .i64 k ∧ Steps (l.take k) ([], []) ns stk ∧ (∀ v ∈ l.take k, rightV v = true) ∧ Stor wr w.heap.size stk rbk nbk ∧ Below w.heap.size w wr ∧ ¬ SFoot w.heap.size rbk nbk w2.heap.size ∧
      wr.heap[w2.heap.size]? = some (.cells cur 3 (0, 0)) ∧ cur.size = N ∧ ∀ (j : Nat) (n : Int), ns[j]? = some n → cur[j]? = some (.int .i64 n)) (fun i _ => N - (intOf i).toNat)
  case atStart => exact ⟨0, [], ([], []), none, none, cs, Nat.zero_le _, rfl, rfl, by simp, HS3.out, HB3.out, HA3.out, Hb3.out, hcs, by simp⟩
  case round =>
    obtain ⟨k, ns, stk, rbk, nbk, cur, hk, rfl, hst, hrt, hsk, hbw, hap, hmet, hcz, hcur⟩ := hrel
    have HSTP := Lib.hid hst
    have HRT := Lib.hid hrt
    have HSK := Lib.hid hsk
    have HBW := Lib.hid hbw
    have HAP := Lib.hid hap
    have HMET := Lib.hid hmet
    have HCUR := Lib.hid hcur
    have hbz := hbw.size
    have hmlt := heap_lt hmet
    clear hst hrt hsk hbw hap hmet hcur
    by_cases hlt : k < N
    · have hlt' : k < l.length := by omega
      obtain ⟨b, off, rfl, hbB, hels⟩ := HEL.out.resolve_left (by intro e; rw [e] at hlt'; simp at hlt')
      obtain ⟨sl, e0, e1, e2, e3, hsub⟩ := (hels.move (Q := fun k => k < w.heap.size) (w' := wr) (fun k hk => ⟨hk, fun j => World.cell?_of_block (a := ⟨k, j, none⟩) (HBW.out.block k hk)⟩) hbB).at hlt'
      obtain ⟨a2, cap2, rfl⟩ := subP_slice hsub
      have HX := Lib.hid (subP_isV hsub)
      have HVO := Lib.hid (okL_nth HOK.out hlt')
      clear hsub hels
      obtain ⟨v, hv⟩ : ∃ v, nthV l k = v := ⟨_, rfl⟩
      have HV := Lib.hid (show l[k]? = some v from by rw [← hv]; exact nthV_at hlt')
      rw [hv] at e0 e1 e2 e3 HX HVO
      clear hv
      have hvlen := ok_len HVO.out
      obtain ⟨W4, hW4⟩ : ∃ W4, W4 = wr.alloc (.cells #[.int .i64 v.k, .int .i64 v.n, .string v.s, .slice a2 v.ps.length cap2] 24) := ⟨_, rfl⟩
      have hb4 : W4.heap[wr.heap.size]? = some (.cells #[.int .i64 v.k, .int .i64 v.n, .string v.s, .slice a2 v.ps.length cap2] 24 (0, 0)) := by rw [hW4]; exact heap_alloc_new _ _
      have hB4 : Below wr.heap.size wr W4 := by rw [hW4]; exact (Below.refl _ _).alloc (Nat.le_refl _) _
      have hz4 := hB4.size
      have HS4 := Lib.hid (stor_new HSK.out hB4)
      have HX4 := Lib.hid (show IsVP (fun k => k < w.heap.size) W4 v _ from HX.out.blocks (fun j hj => hB4.block j (by omega)))
      have HF4 := Lib.hid (Far.low HS4.out (Nat.le_refl _))
      have HB4 := Lib.hid hB4
      have Hb4 := Lib.hid hb4
      have HBW4 := Lib.hid (HBW.out.trans (hB4.mono (by omega)))
      clear hb4 hB4
      obtain ⟨q, hq⟩ : ∃ q, rightV v = q := ⟨_, rfl⟩
      have HQ := Lib.hid hq
      clear hq
      cases q with
      | false =>
        go_wp2_with fail
        rw [← hW4]
        clear hW4 e0 e1 e2 e3
        refine (sput_bad v _ w.heap.size _ stk rbk nbk W4 HS4.out HX4.out HF4.out HVO.out HQ.out).mono ?_
        rintro e w5 ⟨rfl, hb5⟩
        obtain ⟨c0, c1, c2, c3⟩ := block4 ((hb5.block _ (heap_lt Hb4.out)).trans Hb4.out)
        have hz5 := hb5.size
        have HB5 := Lib.hid (HBW4.out.trans (hb5.mono (by omega)))
        have HX5 := Lib.hid (IsV.of_p (HX4.out.blocks (fun j hj => hb5.block j (by omega))) (fun _ h => h))
        clear hb5
        go_wp2_with fail
        refine (right_any v _ w.heap.size w5 HX5.out (by omega) HVO.out).mono ?_
        rintro e w6 ⟨rfl, hb6⟩
        have HB6 := Lib.hid (HB5.out.trans (hb6.mono (by omega)))
        rw [HQ.out]
        clear hb6 c0 c1 c2 c3
        go_wp2_with fail
        go_ret
        exact ⟨rfl, HB6.out⟩
      | true =>
        go_wp2_with fail
        rw [← hW4]
        clear hW4 e0 e1 e2 e3
        refine (sput_any v _ w.heap.size _ stk rbk nbk W4 HS4.out HX4.out HF4.out HVO.out HQ.out).mono ?_
        rintro e w5 ⟨rfl, rb5, nb5, hst5, hl1, hl2, hfr⟩
        have HMET5 := Lib.hid (fr_block hfr ((HB4.out.block _ hmlt).trans HMET.out) HAP.out)
        have HBW5 := Lib.hid (HBW4.out.trans (HS4.out.below hfr (Nat.le_refl _)))
        have HAP5 := Lib.hid (show ¬ SFoot w.heap.size rb5 nb5 w2.heap.size from fun h3 => by
          rcases foot_later hl1 hl2 h3 with h | h
          · exact HAP.out h
          · omega)
        have HST5 := Lib.hid hst5
        have hz5 := hfr.size
        obtain ⟨c0, c1, c2, c3⟩ := block4 (fr_block hfr Hb4.out (HSK.out.apart (Nat.le_refl _)))
        have htwo := putV_two v stk
        obtain ⟨nm, hnm⟩ : ∃ nm, (putV v stk).1 = nm := ⟨_, rfl⟩
        obtain ⟨er, her⟩ : ∃ er, (putV v stk).2.1 = er := ⟨_, rfl⟩
        rw [her] at htwo
        rw [hnm, her]
        have HNM := Lib.hid hnm
        have HER := Lib.hid her
        clear hst5 hl1 hl2 hfr hnm her
        have hnl : ns.length = k := by have := HSTP.out.len; rw [List.length_take] at this; omega
        have HNL := Lib.hid hnl
        clear hnl
        rcases htwo with rfl | rfl
        · obtain ⟨u1, hn1⟩ : ∃ u, w5.cell? ⟨w2.heap.size, k, none⟩ = some u := by
            rw [cell_of HMET5.out, Array.getElem?_eq_getElem (by omega)]; exact ⟨_, rfl⟩
          have hn3 := free_of (j := k) HMET5.out
          go_wp2_with fail
          go_roundw
          case rel =>
            refine ⟨k + 1, ns ++ [nm], (putV v stk).2.2, rb5, nb5, cur.set! k (.int .i64 nm), by omega, by go_num, ?_, ?_, ?_, ?_, HAP5.out, set_block HMET5.out, by simp [hcz], ?_⟩
            · rw [List.take_add_one, HV.out, ← HNM.out]
              exact HSTP.out.snoc HER.out
            · intro y hy
              rw [List.take_add_one, HV.out] at hy
              rcases List.mem_append.1 hy with hy | hy
              · exact HRT.out y hy
              · simp at hy; subst hy; exact HQ.out
            · exact HST5.out.kept (Sy.Fr.of_setCell (S := fun j => j = w2.heap.size) w5 (p := ⟨w2.heap.size, k, none⟩) rfl _) (fun j hj e => HAP5.out (e ▸ hj))
            · exact HBW5.out.setCell (p := ⟨w2.heap.size, k, none⟩) (show w.heap.size ≤ w2.heap.size by omega) _
            · intro j n hj
              by_cases hjk : j = k
              · subst hjk
                rw [List.getElem?_append_right (by have := HNL.out; omega), HNL.out] at hj
                simp at hj
                subst hj
                simp [hcz, hlt]
              · have hjl : j < ns.length := by
                  have := (List.getElem?_eq_some_iff.1 hj).1
                  have := HNL.out
                  simp at *
                  omega
                rw [List.getElem?_append_left hjl] at hj
                simp only [Array.set!_eq_setIfInBounds]
                rw [Array.getElem?_setIfInBounds_ne (by omega)]
                exact HCUR.out j n hj
          case measure => simp [intOf]; omega
        · go_wp2_with fail
          go_ret
          exact ⟨rfl, HBW5.out⟩
    · obtain rfl : k = N := by omega
      go_wp2_with fail
      have hnl : ns.length = k := by have := HSTP.out.len; rw [List.length_take] at this; omega
      have HNL := Lib.hid hnl
      clear hnl
      obtain ⟨wa, hwa⟩ : ∃ wa, wa = wr := ⟨_, rfl⟩
      subst hwa
      go_loopw [62] (fun i wr => ∃ j : Nat, j ≤ k ∧ i = .int .i64 j ∧ Below wa.heap.size wa wr) (fun i _ => k - (intOf i).toNat)
      case atStart => exact ⟨0, Nat.zero_le _, rfl, Below.refl _ _⟩
      case round =>
        obtain ⟨wq, hwq⟩ : ∃ wq, wq = wr := ⟨_, rfl⟩
        subst hwq
        obtain ⟨j, hj, rfl, hbq⟩ := hrel
        have HBQ := Lib.hid hbq
        have hqz := hbq.size
        clear hbq
        by_cases hlt : j < k
        · have hlt' : j < l.length := by omega
          obtain ⟨b, off, rfl, hbB, hels⟩ := HEL.out.resolve_left (by intro e; rw [e] at hlt'; simp at hlt')
          have HELS := Lib.hid hels
          have HBB := Lib.hid hbB
          obtain ⟨sl, e0, e1, e2, e3, hsub⟩ := (hels.move (Q := fun k => k < w.heap.size) (w' := wq) (fun k hk => ⟨hk, fun j => World.cell?_of_block (a := ⟨k, j, none⟩) ((HBQ.out.block k (by omega)).trans (HBW.out.block k hk))⟩) hbB).at hlt'
          obtain ⟨a2, cap2, rfl⟩ := subP_slice hsub
          have HX := Lib.hid (subP_isV hsub)
          have HVO := Lib.hid (okL_nth HOK.out hlt')
          clear hsub hels hbB
          obtain ⟨v, hv⟩ : ∃ v, nthV l j = v := ⟨_, rfl⟩
          have HV := Lib.hid (show l[j]? = some v from by rw [← hv]; exact nthV_at hlt')
          rw [hv] at e0 e1 e2 e3 HX HVO
          clear hv
          have hvlen := ok_len HVO.out
          have HVR := Lib.hid (show rightV v = true from HRT.out v (List.mem_of_getElem? (show (l.take k)[j]? = some v from by rw [List.getElem?_take_of_lt hlt]; exact HV.out)))
          obtain ⟨n, hn⟩ : ∃ n, ns[j]? = some n := ⟨_, List.getElem?_eq_getElem (by have := HNL.out; omega)⟩
          have HNJ := Lib.hid hn
          have hm0 : wq.cell? ⟨w2.heap.size, j, none⟩ = some (.int .i64 n) := by
            rw [cell_of ((HBQ.out.block _ hmlt).trans HMET.out)]; exact HCUR.out j n hn
          have HBK := Lib.hid (HSTP.out.back (show (l.take k)[j]? = some v from by rw [List.getElem?_take_of_lt hlt]; exact HV.out) hn (right_may HVR.out) v.sz (Nat.le_refl _))
          obtain ⟨W4, hW4⟩ : ∃ W4, W4 = wq.alloc (.cells #[.int .i64 v.k, .int .i64 v.n, .string v.s, .slice a2 v.ps.length cap2] 24) := ⟨_, rfl⟩
          have hb4 : W4.heap[wq.heap.size]? = some (.cells #[.int .i64 v.k, .int .i64 v.n, .string v.s, .slice a2 v.ps.length cap2] 24 (0, 0)) := by rw [hW4]; exact heap_alloc_new _ _
          have hB4 : Below wq.heap.size wq W4 := by rw [hW4]; exact (Below.refl _ _).alloc (Nat.le_refl _) _
          have hz4 := hB4.size
          have hs4 : W4.heap.size = wq.heap.size + 1 := by rw [hW4]; simp
          have HBQ4 := Lib.hid (HBQ.out.trans (hB4.mono hqz))
          have HS4 := Lib.hid (stor_new HSK.out HBQ4.out)
          have HX4 := Lib.hid (show IsVP (fun k => k < w.heap.size) W4 v _ from HX.out.blocks (fun j hj => hB4.block j (by omega)))
          have HB4 := Lib.hid hB4
          have Hb4 := Lib.hid hb4
          have HW4 := Lib.hid hW4
          clear hb4 hB4 hn hW4
          have HM4 := Lib.hid (show W4.heap[w2.heap.size]? = some (.cells cur 3 (0, 0)) from (HBQ4.out.block _ hmlt).trans HMET.out)
          have HMN := Lib.hid (HCUR.out j n HNJ.out)
          go_wp2_with fail
          rw [← HW4.out]
          go_cut [11, 12] (fun s11 s12 wx => ∃ (bb : Nat) (a5 : Option Addr) (cap5 : Nat), s11 = .pointer (some ⟨bb, 0, none⟩) ∧ s12 = .bool true ∧ wx.heap[bb]? = some (.cells #[.int .i64 v.k, .int .i64 v.n, .string v.s, .slice a5 v.ps.length cap5] 24 (0, 0)) ∧ IsV wx.heap.size wx v (.agg #[.int .i64 v.k, .int .i64 v.n, .string v.s, .slice a5 v.ps.length cap5]) ∧ Below W4.heap.size W4 wx)
          case first =>
            have HK := Lib.hid (show ∀ w', Below W4.heap.size W4 w' → _ from fun w' h => back_held h Hb4.out HM4.out HMN.out)
            have HS4S := Lib.hid hs4
            clear e0 e1 e2 e3 hm0 hs4
            go_region_held3 (fun w' => Below W4.heap.size W4 w' ∧ w'.cell? ⟨wq.heap.size, 0, none⟩ = some (.int .i64 v.k) ∧ w'.cell? ⟨w2.heap.size, j, none⟩ = some (.int .i64 n)) (first | exact HK.out _ (Below.refl _ _).drew | exact HK.out _ ((Below.refl _ _).drew.alloc (Nat.le_refl _) _) | exact HK.out _ (by assumption) | exact HK.out _ (Below.alloc (by assumption) (by assumption) _) | exact HK.out _ (below_set4 (by assumption) _ _ _ _) | assumption) (first | (go_at_call 25; obtain ⟨hSB, hSr⟩ := ‹Below W4.heap.size W4 _ ∧ _›; refine (back_any v.sz w.heap.size stk rbk nbk _ _ _ v (stor_new HS4.out hSB) HBK.out).mono ?_; rintro e w5 ⟨x, rfl, hx5, hb5⟩; obtain ⟨a5, cap5, rfl, _, _⟩ := hx5.open; have hN5 : Below W4.heap.size W4 w5 := hSB.trans (hb5.mono hSB.size); have hZ5 : W4.heap.size ≤ w5.heap.size := hN5.size; have HS5 := Lib.hid (And.intro hx5 hb5.size); (first | (have hzz : w5.heap[W4.heap.size]? = some (.cells #[.int .i64 0, .int .i64 0, .string ⟨#[]⟩, .slice none 0 0] 24 (0, 0)) := ((hb5.block W4.heap.size (alloc_lt W4.drew _)).trans (heap_alloc_new W4.drew (.cells #[.int .i64 0, .int .i64 0, .string ⟨#[]⟩, .slice none 0 0] 24))); obtain ⟨z0, z1, z2, z3⟩ := block4 hzz; have y0 := free_of (j := 0) hzz; have y1 := free_of (j := 1) hzz; have y2 := free_of (j := 2) hzz; have y3 := free_of (j := 3) hzz; have HZZ := Lib.hid hzz; clear hzz) | skip); clear hx5 hb5 hSB hSr))
            all_goals
              simp only [Exit.then]
              refine (‹∀ (a' : Act) (w' : World), Met _ a' w' → _›) _ _ ?_
              go_meet
              first
                | (have hzz := HZZ.out; exact ⟨W4.heap.size, a5, cap5, rfl, rfl, set_all4 hzz _ _ _ _, way_set (alloc_lt W4.drew _) _ _ _ _ HS5.out.1, below_set4 hN5 _ _ _ _⟩)
                | exact ⟨w5.heap.size, a5, cap5, rfl, rfl, heap_alloc_new _ _, way_alloc _ HS5.out.1, hN5.alloc hZ5 _⟩
          case rest =>
            obtain ⟨bb, a5, cap5, rfl, rfl, hbb, hxx, hb5⟩ := hcut
            obtain ⟨wx, hwx⟩ : ∃ wx, wx = wc := ⟨_, rfl⟩
            subst hwx
            have HBBB := Lib.hid hbb
            have HXX := Lib.hid hxx
            have HBX := Lib.hid hb5
            have hz5 := hb5.size
            have hbx := hb5.block _ (heap_lt Hb4.out)
            rw [Hb4.out] at hbx
            obtain ⟨p0, p1, p2, p3⟩ := block4 hbx
            obtain ⟨q0, q1, q2, q3⟩ := block4 hbb
            have HBVX := Lib.hid hbx
            clear hbb hxx hb5 hbx e0 e1 e2 e3 hm0
            go_wp2_with fail
            have HXV := Lib.hid (show IsV wx.heap.size wx v (.agg #[.int .i64 v.k, .int .i64 v.n, .string v.s, .slice a2 v.ps.length cap2]) from IsV.of_p (HX4.out.blocks (fun j hj => HBX.out.block j (by omega))) (fun j (hj : j < w.heap.size) => by omega))
            refine (raw_any (v.sz + 1) v v _ _ wx.heap.size wx (Nat.lt_succ_self _) HXV.out HXX.out (Nat.le_refl _) HVO.out HVO.out).mono ?_
            rintro e w6 ⟨rfl, hb6⟩
            rw [rawV_refl]
            have HB6 := Lib.hid (show Below wa.heap.size wa w6 from HBQ4.out.trans ((HBX.out.trans (hb6.mono hz5)).mono (by omega)))
            have hz6 := hb6.size
            have HBV6 := Lib.hid ((hb6.block _ (heap_lt HBVX.out)).trans HBVX.out)
            clear hb6 p0 p1 p2 p3 q0 q1 q2 q3
            go_wp2_with fail
            go_loopw [87] (fun i wr => ∃ t : Nat, t ≤ j ∧ i = .int .i64 t ∧ Below w6.heap.size w6 wr) (fun i _ => j - (intOf i).toNat)
            case atStart => exact ⟨0, Nat.zero_le _, rfl, Below.refl _ _⟩
            case round =>
              obtain ⟨t, ht, rfl, hbt⟩ := hrel
              have HBT := Lib.hid hbt
              have htz := hbt.size
              clear hbt
              by_cases htj : t < j
              · have htk : t < k := by omega
                have htl : t < l.length := by omega
                have hbl := HEL.out.resolve_left (by intro e; rw [e] at htl; simp at htl)
                obtain ⟨b', off', e, hbB, hels⟩ := hbl
                simp only [Option.some.injEq, Addr.mk.injEq, and_true] at e
                obtain ⟨rfl, rfl⟩ := e
                have HBA := Lib.hid (show Below w.heap.size w wr from HBW.out.trans ((HB6.out.trans (HBT.out.mono (by have := HB6.out.size; omega))).mono (by omega)))
                obtain ⟨sl, e0, e1, e2, e3, hsub⟩ := (hels.move (Q := fun k => k < w.heap.size) (w' := wr) (fun k hk => ⟨hk, fun j => World.cell?_of_block (a := ⟨k, j, none⟩) (HBA.out.block k hk)⟩) hbB).at htl
                obtain ⟨a6, cap6, rfl⟩ := subP_slice hsub
                have HXU := Lib.hid (subP_isV hsub)
                have HUO := Lib.hid (okL_nth HOK.out htl)
                clear hsub hels hbB
                obtain ⟨u, hu⟩ : ∃ u, nthV l t = u := ⟨_, rfl⟩
                have HU := Lib.hid (show l[t]? = some u from by rw [← hu]; exact nthV_at htl)
                rw [hu] at e0 e1 e2 e3 HXU HUO
                clear hu
                have hulen := ok_len HUO.out
                have HUR := Lib.hid (show rightV u = true from HRT.out u (List.mem_of_getElem? (show (l.take k)[t]? = some u from by rw [List.getElem?_take_of_lt htk]; exact HU.out)))
                obtain ⟨n2, hn2⟩ : ∃ n, ns[t]? = some n := ⟨_, List.getElem?_eq_getElem (by have := HNL.out; omega)⟩
                have hmw := (HBT.out.block _ (by have := HB6.out.size; omega)).trans ((HB6.out.block _ hmlt).trans HMET.out)
                have m0 : wr.cell? ⟨w2.heap.size, t, none⟩ = some (.int .i64 n2) := by rw [cell_of hmw]; exact HCUR.out t n2 hn2
                have m1 : wr.cell? ⟨w2.heap.size, j, none⟩ = some (.int .i64 n) := by rw [cell_of hmw]; exact HMN.out
                have HVW := Lib.hid ((HBT.out.block _ (heap_lt HBV6.out)).trans HBV6.out)
                obtain ⟨p0, p1, p2, p3⟩ := block4 HVW.out
                have HK := Lib.hid (show ∀ w', Below wr.heap.size wr w' → Below wr.heap.size wr w' ∧ w'.cell? ⟨b, off + t * 4, none⟩ = some (.int .i64 u.k) ∧ w'.cell? ⟨b, off + t * 4 + 1, none⟩ = some (.int .i64 u.n) ∧ w'.cell? ⟨b, off + t * 4 + 2, none⟩ = some (.string u.s) ∧ w'.cell? ⟨b, off + t * 4 + 3, none⟩ = some (.slice a6 u.ps.length cap6) ∧ w'.cell? ⟨wq.heap.size, 0, none⟩ = some (.int .i64 v.k) ∧ w'.cell? ⟨wq.heap.size, 1, none⟩ = some (.int .i64 v.n) ∧ w'.cell? ⟨wq.heap.size, 2, none⟩ = some (.string v.s) ∧ w'.cell? ⟨wq.heap.size, 3, none⟩ = some (.slice a2 v.ps.length cap2) ∧ w'.cell? ⟨w2.heap.size, t, none⟩ = some (.int .i64 n2) ∧ w'.cell? ⟨w2.heap.size, j, none⟩ = some (.int .i64 n) from
                  fun w' h => ⟨h, below_cell h e0, below_cell h e1, below_cell h e2, below_cell h e3, below_cell h p0, below_cell h p1, below_cell h p2, below_cell h p3, below_cell h m0, below_cell h m1⟩)
                have HXU2 := Lib.hid (IsV.of_p HXU.out (B := wr.heap.size) (fun j (hj : j < w.heap.size) => by have := HBA.out.size; omega))
                have HXV2 := Lib.hid (show IsV wr.heap.size wr v (.agg #[.int .i64 v.k, .int .i64 v.n, .string v.s, .slice a2 v.ps.length cap2]) from IsV.of_p (HX4.out.blocks (fun j hj => by
                  have hj : j < w.heap.size := hj
                  rw [HBA.out.block j hj]
                  exact (HBW.out.block j hj).symm.trans (HBQ4.out.block j (by omega)).symm |>.trans rfl)) (fun j (hj : j < w.heap.size) => by have := HBA.out.size; omega))
                clear e0 e1 e2 e3 p0 p1 p2 p3 m0 m1 hmw
                by_cases hk : u.k = v.k
                · have ek : (u.k == v.k) = true := by simp [hk]
                  have hsame := HSTP.out.same (show (l.take k)[t]? = some u from by rw [List.getElem?_take_of_lt htk]; exact HU.out) hn2 (show (l.take k)[j]? = some v from by rw [List.getElem?_take_of_lt hlt]; exact HV.out) HNJ.out (right_may HUR.out) (right_may HVR.out) hk
                  obtain ⟨z, hz⟩ : ∃ z, decide (orderV u v = 0) = z := ⟨_, rfl⟩
                  have en : (n2 == n) = z := by
                    rw [← hz, Bool.eq_iff_iff, decide_eq_true_eq, beq_iff_eq, order_same HUR.out HVR.out]
                    exact hsame
                  have HZ := Lib.hid hz
                  clear hk hsame hz hn2
                  go_upto_region 23 with fail
                  go_region_held3 (fun w' => Below wr.heap.size wr w' ∧ w'.cell? ⟨b, off + t * 4, none⟩ = some (.int .i64 u.k) ∧ w'.cell? ⟨b, off + t * 4 + 1, none⟩ = some (.int .i64 u.n) ∧ w'.cell? ⟨b, off + t * 4 + 2, none⟩ = some (.string u.s) ∧ w'.cell? ⟨b, off + t * 4 + 3, none⟩ = some (.slice a6 u.ps.length cap6) ∧ w'.cell? ⟨wq.heap.size, 0, none⟩ = some (.int .i64 v.k) ∧ w'.cell? ⟨wq.heap.size, 1, none⟩ = some (.int .i64 v.n) ∧ w'.cell? ⟨wq.heap.size, 2, none⟩ = some (.string v.s) ∧ w'.cell? ⟨wq.heap.size, 3, none⟩ = some (.slice a2 v.ps.length cap2) ∧ w'.cell? ⟨w2.heap.size, t, none⟩ = some (.int .i64 n2) ∧ w'.cell? ⟨w2.heap.size, j, none⟩ = some (.int .i64 n)) (first | exact HK.out _ (Below.refl _ _).drew | exact HK.out _ (by assumption)) (first | (go_at_call 18; obtain ⟨hSB, hSr⟩ := ‹Below wr.heap.size wr _ ∧ _›; refine (same_all u v _ _ wr.heap.size _ (HXU2.out.below hSB) (HXV2.out.below hSB) hSB.size HUO.out HVO.out).mono ?_; rintro e w8 ⟨rfl, hb8⟩; rw [HZ.out]; have hN8 : Below wr.heap.size wr w8 := hSB.trans (hb8.mono hSB.size); clear hb8 hSB hSr))
                  all_goals
                    have hN := ‹Below wr.heap.size wr _ ∧ _›.1
                    go_wp2_with fail
                    go_roundw
                    case rel => exact ⟨t + 1, by omega, by go_num, HBT.out.trans (hN.mono htz)⟩
                    case measure => simp [intOf]; omega
                · have ek : (u.k == v.k) = false := by simp [hk]
                  clear hk hn2
                  have HK2 := Lib.hid (show ∀ w', Below wr.heap.size wr w' → Below wr.heap.size wr w' ∧ w'.cell? ⟨b, off + t * 4, none⟩ = some (.int .i64 u.k) ∧ w'.cell? ⟨wq.heap.size, 0, none⟩ = some (.int .i64 v.k) from fun w' h => ⟨h, (HK.out w' h).2.1, (HK.out w' h).2.2.2.2.2.1⟩)
                  go_upto_region 23 with fail
                  have hS0 := HK2.out wr.drew (Below.refl _ _).drew
                  refine wp_region_noPanic ?_
                  refine wp_region_held_drew (S := fun w' : World => Below wr.heap.size wr w' ∧ w'.cell? ⟨b, off + t * 4, none⟩ = some (.int .i64 u.k) ∧ w'.cell? ⟨wq.heap.size, 0, none⟩ = some (.int .i64 v.k)) (by kernel_rfl) hS0 (fun _ => ?_)
                  refine wpAnyH_take (i := 0) (oi := { dst := some 90, op := Op.move (Operand.tmp 0), type := 22, pos := "law.go:81", after := #[], guard := none }) (v := .slice (some ⟨b, off, none⟩) k cap) rfl (by kernel_rfl) (by kernel_rfl) (by kernel_rfl) (fun c a w h => (h : False).elim) (Or.inl ⟨by rfl, ?_⟩) hS0 ?_
                  · rintro w ⟨_, s0, s1⟩
                    go_simp
                  simp only [Act.put, List.setIfInBounds_toArray, List.set_cons_zero, List.set_cons_succ]
                  refine wpAnyH_take (i := 1) (oi := { dst := some 91, op := Op.move (Operand.tmp 13), type := 3, pos := "law.go:81", after := #[], guard := none }) (v := .int .i64 t) rfl (by kernel_rfl) (by kernel_rfl) (by kernel_rfl) (fun c a w h => (h : False).elim) (Or.inl ⟨by rfl, ?_⟩) hS0 ?_
                  · rintro w ⟨_, s0, s1⟩
                    go_simp
                  simp only [Act.put, List.setIfInBounds_toArray, List.set_cons_zero, List.set_cons_succ]
                  refine wpAnyH_take (i := 2) (oi := { dst := some 92, op := Op.indexAddr 22 (Operand.tmp 90) (Operand.tmp 91), type := 0, pos := "law.go:81", after := #[{ on := 0, ground := Ground.data }, { on := 1, ground := Ground.data }], guard := none }) (v := .pointer (some ⟨b, off + t * 4, none⟩)) rfl (by kernel_rfl) (by kernel_rfl) (by kernel_rfl) (fun c a w h => (h : False).elim) (Or.inl ⟨by rfl, ?_⟩) hS0 ?_
                  · rintro w ⟨_, s0, s1⟩
                    go_simp
                  simp only [Act.put, List.setIfInBounds_toArray, List.set_cons_zero, List.set_cons_succ]
                  refine wpAnyH_take (i := 3) (oi := { dst := some 93, op := Op.fieldAddr 24 (Operand.tmp 92) 0, type := 0, pos := "law.go:81", after := #[{ on := 2, ground := Ground.data }], guard := none }) (v := .pointer (some ⟨b, off + t * 4, none⟩)) rfl (by kernel_rfl) (by kernel_rfl) (by kernel_rfl) (fun c a w h => (h : False).elim) (Or.inl ⟨by rfl, ?_⟩) hS0 ?_
                  · rintro w ⟨_, s0, s1⟩
                    go_simp
                  simp only [Act.put, List.setIfInBounds_toArray, List.set_cons_zero, List.set_cons_succ]
                  refine wpAnyH_take (i := 4) (oi := { dst := some 94, op := Op.load 3 (Operand.tmp 93), type := 3, pos := "law.go:81", after := #[{ on := 3, ground := Ground.data }], guard := none }) (v := .int .i64 u.k) rfl (by kernel_rfl) (by kernel_rfl) (by kernel_rfl) (fun c a w h => (h : False).elim) (Or.inl ⟨by rfl, ?_⟩) hS0 ?_
                  · rintro w ⟨_, s0, s1⟩
                    go_simp
                  simp only [Act.put, List.setIfInBounds_toArray, List.set_cons_zero, List.set_cons_succ]
                  refine wpAnyH_take (i := 5) (oi := { dst := some 95, op := Op.fieldAddr 24 (Operand.tmp 10) 0, type := 0, pos := "law.go:81", after := #[], guard := none }) (v := .pointer (some ⟨wq.heap.size, 0, none⟩)) rfl (by kernel_rfl) (by kernel_rfl) (by kernel_rfl) (fun c a w h => (h : False).elim) (Or.inl ⟨by rfl, ?_⟩) hS0 ?_
                  · rintro w ⟨_, s0, s1⟩
                    go_simp
                  simp only [Act.put, List.setIfInBounds_toArray, List.set_cons_zero, List.set_cons_succ]
                  refine wpAnyH_take (i := 6) (oi := { dst := some 96, op := Op.load 3 (Operand.tmp 95), type := 3, pos := "law.go:81", after := #[{ on := 5, ground := Ground.data }], guard := none }) (v := .int .i64 v.k) rfl (by kernel_rfl) (by kernel_rfl) (by kernel_rfl) (fun c a w h => (h : False).elim) (Or.inl ⟨by rfl, ?_⟩) hS0 ?_
                  · rintro w ⟨_, s0, s1⟩
                    go_simp
                  simp only [Act.put, List.setIfInBounds_toArray, List.set_cons_zero, List.set_cons_succ]
                  refine wpAnyH_take (i := 7) (oi := { dst := some 97, op := Op.binOp BinOp.eql 3 (Operand.tmp 94) (Operand.tmp 96) 3, type := 4, pos := "law.go:81", after := #[{ on := 4, ground := Ground.data }, { on := 6, ground := Ground.data }], guard := none }) (v := .bool false) rfl (by kernel_rfl) (by kernel_rfl) (by kernel_rfl) (fun c a w h => (h : False).elim) (Or.inl ⟨by rfl, ?_⟩) hS0 ?_
                  · rintro w ⟨_, s0, s1⟩
                    go_simp
                  simp only [Act.put, List.setIfInBounds_toArray, List.set_cons_zero, List.set_cons_succ]
                  refine wpAnyH_take (i := 8) (oi := { dst := some 98, op := Op.move (Operand.tmp 97), type := 4, pos := "law.go:81", after := #[{ on := 7, ground := Ground.data }], guard := none }) (v := .bool false) rfl (by kernel_rfl) (by kernel_rfl) (by kernel_rfl) (fun c a w h => (h : False).elim) (Or.inl ⟨by rfl, ?_⟩) hS0 ?_
                  · rintro w ⟨_, s0, s1⟩
                    go_simp
                  simp only [Act.put, List.setIfInBounds_toArray, List.set_cons_zero, List.set_cons_succ]
                  refine wpAnyH_take (i := 9) (oi := { dst := some 99, op := Op.move (Operand.tmp 4), type := 49, pos := "law.go:81", after := #[{ on := 8, ground := Ground.guard }], guard := some (8, true) }) (v := undef) rfl (by kernel_rfl) (by kernel_rfl) (by kernel_rfl) (fun c a w h => (h : False).elim) (Or.inr ⟨by rfl, rfl⟩) hS0 ?_
                  simp only [Act.put, List.setIfInBounds_toArray, List.set_cons_zero, List.set_cons_succ]
                  refine wpAnyH_take (i := 10) (oi := { dst := some 100, op := Op.move (Operand.tmp 13), type := 3, pos := "law.go:81", after := #[{ on := 8, ground := Ground.guard }], guard := some (8, true) }) (v := undef) rfl (by kernel_rfl) (by kernel_rfl) (by kernel_rfl) (fun c a w h => (h : False).elim) (Or.inr ⟨by rfl, rfl⟩) hS0 ?_
                  simp only [Act.put, List.setIfInBounds_toArray, List.set_cons_zero, List.set_cons_succ]
                  refine wpAnyH_take (i := 11) (oi := { dst := some 101, op := Op.indexAddr 49 (Operand.tmp 99) (Operand.tmp 100), type := 0, pos := "law.go:81", after := #[{ on := 9, ground := Ground.data }, { on := 10, ground := Ground.data }, { on := 8, ground := Ground.guard }], guard := some (8, true) }) (v := undef) rfl (by kernel_rfl) (by kernel_rfl) (by kernel_rfl) (fun c a w h => (h : False).elim) (Or.inr ⟨by rfl, rfl⟩) hS0 ?_
                  simp only [Act.put, List.setIfInBounds_toArray, List.set_cons_zero, List.set_cons_succ]
                  refine wpAnyH_take (i := 12) (oi := { dst := some 102, op := Op.load 3 (Operand.tmp 101), type := 3, pos := "law.go:81", after := #[{ on := 11, ground := Ground.data }, { on := 8, ground := Ground.guard }], guard := some (8, true) }) (v := undef) rfl (by kernel_rfl) (by kernel_rfl) (by kernel_rfl) (fun c a w h => (h : False).elim) (Or.inr ⟨by rfl, rfl⟩) hS0 ?_
                  simp only [Act.put, List.setIfInBounds_toArray, List.set_cons_zero, List.set_cons_succ]
                  refine wpAnyH_take (i := 13) (oi := { dst := some 103, op := Op.move (Operand.tmp 4), type := 49, pos := "law.go:81", after := #[{ on := 8, ground := Ground.guard }], guard := some (8, true) }) (v := undef) rfl (by kernel_rfl) (by kernel_rfl) (by kernel_rfl) (fun c a w h => (h : False).elim) (Or.inr ⟨by rfl, rfl⟩) hS0 ?_
                  simp only [Act.put, List.setIfInBounds_toArray, List.set_cons_zero, List.set_cons_succ]
                  refine wpAnyH_take (i := 14) (oi := { dst := some 104, op := Op.move (Operand.tmp 9), type := 3, pos := "law.go:81", after := #[{ on := 8, ground := Ground.guard }], guard := some (8, true) }) (v := undef) rfl (by kernel_rfl) (by kernel_rfl) (by kernel_rfl) (fun c a w h => (h : False).elim) (Or.inr ⟨by rfl, rfl⟩) hS0 ?_
                  simp only [Act.put, List.setIfInBounds_toArray, List.set_cons_zero, List.set_cons_succ]
                  refine wpAnyH_take (i := 15) (oi := { dst := some 105, op := Op.indexAddr 49 (Operand.tmp 103) (Operand.tmp 104), type := 0, pos := "law.go:81", after := #[{ on := 13, ground := Ground.data }, { on := 14, ground := Ground.data }, { on := 8, ground := Ground.guard }], guard := some (8, true) }) (v := undef) rfl (by kernel_rfl) (by kernel_rfl) (by kernel_rfl) (fun c a w h => (h : False).elim) (Or.inr ⟨by rfl, rfl⟩) hS0 ?_
                  simp only [Act.put, List.setIfInBounds_toArray, List.set_cons_zero, List.set_cons_succ]
                  refine wpAnyH_take (i := 16) (oi := { dst := some 106, op := Op.load 3 (Operand.tmp 105), type := 3, pos := "law.go:81", after := #[{ on := 15, ground := Ground.data }, { on := 8, ground := Ground.guard }], guard := some (8, true) }) (v := undef) rfl (by kernel_rfl) (by kernel_rfl) (by kernel_rfl) (fun c a w h => (h : False).elim) (Or.inr ⟨by rfl, rfl⟩) hS0 ?_
                  simp only [Act.put, List.setIfInBounds_toArray, List.set_cons_zero, List.set_cons_succ]
                  refine wpAnyH_take (i := 17) (oi := { dst := some 107, op := Op.binOp BinOp.eql 3 (Operand.tmp 102) (Operand.tmp 106) 3, type := 4, pos := "law.go:81", after := #[{ on := 12, ground := Ground.data }, { on := 16, ground := Ground.data }, { on := 8, ground := Ground.guard }], guard := some (8, true) }) (v := undef) rfl (by kernel_rfl) (by kernel_rfl) (by kernel_rfl) (fun c a w h => (h : False).elim) (Or.inr ⟨by rfl, rfl⟩) hS0 ?_
                  simp only [Act.put, List.setIfInBounds_toArray, List.set_cons_zero, List.set_cons_succ]
                  refine wpAnyH_take (i := 18) (oi := { dst := some 108, op := Op.move (Operand.tmp 0), type := 22, pos := "law.go:81", after := #[{ on := 8, ground := Ground.guard }], guard := some (8, true) }) (v := undef) rfl (by kernel_rfl) (by kernel_rfl) (by kernel_rfl) (fun c a w h => (h : False).elim) (Or.inr ⟨by rfl, rfl⟩) hS0 ?_
                  simp only [Act.put, List.setIfInBounds_toArray, List.set_cons_zero, List.set_cons_succ]
                  refine wpAnyH_take (i := 19) (oi := { dst := some 109, op := Op.move (Operand.tmp 13), type := 3, pos := "law.go:81", after := #[{ on := 8, ground := Ground.guard }], guard := some (8, true) }) (v := undef) rfl (by kernel_rfl) (by kernel_rfl) (by kernel_rfl) (fun c a w h => (h : False).elim) (Or.inr ⟨by rfl, rfl⟩) hS0 ?_
                  simp only [Act.put, List.setIfInBounds_toArray, List.set_cons_zero, List.set_cons_succ]
                  refine wpAnyH_take (i := 20) (oi := { dst := some 110, op := Op.indexAddr 22 (Operand.tmp 108) (Operand.tmp 109), type := 0, pos := "law.go:81", after := #[{ on := 18, ground := Ground.data }, { on := 19, ground := Ground.data }, { on := 8, ground := Ground.guard }], guard := some (8, true) }) (v := undef) rfl (by kernel_rfl) (by kernel_rfl) (by kernel_rfl) (fun c a w h => (h : False).elim) (Or.inr ⟨by rfl, rfl⟩) hS0 ?_
                  simp only [Act.put, List.setIfInBounds_toArray, List.set_cons_zero, List.set_cons_succ]
                  refine wpAnyH_take (i := 21) (oi := { dst := some 111, op := Op.load 24 (Operand.tmp 110), type := 24, pos := "law.go:81", after := #[{ on := 20, ground := Ground.data }, { on := 8, ground := Ground.guard }], guard := some (8, true) }) (v := undef) rfl (by kernel_rfl) (by kernel_rfl) (by kernel_rfl) (fun c a w h => (h : False).elim) (Or.inr ⟨by rfl, rfl⟩) hS0 ?_
                  simp only [Act.put, List.setIfInBounds_toArray, List.set_cons_zero, List.set_cons_succ]
                  refine wpAnyH_take (i := 22) (oi := { dst := some 112, op := Op.load 24 (Operand.tmp 10), type := 24, pos := "law.go:81", after := #[{ on := 8, ground := Ground.guard }], guard := some (8, true) }) (v := undef) rfl (by kernel_rfl) (by kernel_rfl) (by kernel_rfl) (fun c a w h => (h : False).elim) (Or.inr ⟨by rfl, rfl⟩) hS0 ?_
                  simp only [Act.put, List.setIfInBounds_toArray, List.set_cons_zero, List.set_cons_succ]
                  refine wpAnyH_take (i := 23) (oi := { dst := some 113, op := Op.call { callee := Callee.value (Operand.func 18), args := #[Operand.tmp 111, Operand.tmp 112], argTypes := #[24, 24] }, type := 4, pos := "law.go:81", after := #[{ on := 21, ground := Ground.data }, { on := 22, ground := Ground.data }, { on := 8, ground := Ground.chain }, { on := 8, ground := Ground.guard }], guard := some (8, true) }) (v := undef) rfl (by kernel_rfl) (by kernel_rfl) (by kernel_rfl) (fun c a w h => (h : False).elim) (Or.inr ⟨by rfl, rfl⟩) hS0 ?_
                  simp only [Act.put, List.setIfInBounds_toArray, List.set_cons_zero, List.set_cons_succ]
                  refine wpAnyH_take (i := 24) (oi := { dst := some 114, op := Op.binOp BinOp.neq 4 (Operand.tmp 107) (Operand.tmp 113) 4, type := 4, pos := "law.go:81", after := #[{ on := 17, ground := Ground.data }, { on := 23, ground := Ground.data }, { on := 8, ground := Ground.guard }], guard := some (8, true) }) (v := undef) rfl (by kernel_rfl) (by kernel_rfl) (by kernel_rfl) (fun c a w h => (h : False).elim) (Or.inr ⟨by rfl, rfl⟩) hS0 ?_
                  simp only [Act.put, List.setIfInBounds_toArray, List.set_cons_zero, List.set_cons_succ]
                  refine wpAnyH_take (i := 25) (oi := { dst := some 115, op := Op.pick (Operand.tmp 98) (Operand.tmp 114) (Operand.const (Value.bool false)), type := 4, pos := "law.go:81", after := #[{ on := 8, ground := Ground.data }, { on := 24, ground := Ground.data }], guard := none }) (v := .bool false) rfl (by kernel_rfl) (by kernel_rfl) (by kernel_rfl) (fun c a w h => (h : False).elim) (Or.inl ⟨by rfl, ?_⟩) hS0 ?_
                  · rintro w ⟨_, s0, s1⟩
                    go_simp
                  simp only [Act.put, List.setIfInBounds_toArray, List.set_cons_zero, List.set_cons_succ]
                  refine wpAnyH_done (by kernel_rfl) ?_ _
                  refine NoPanic.normal ?_
                  have hN := hS0.1
                  go_wp2_with fail
                  go_roundw
                  case rel => exact ⟨t + 1, by omega, by go_num, HBT.out.trans (hN.mono htz)⟩
                  case measure => simp [intOf]; omega
              · go_wp2_with fail
                go_roundw
                case rel => exact ⟨j + 1, by omega, by go_num, HB6.out.trans (HBT.out.mono (by have := HB6.out.size; omega))⟩
                case measure => simp [intOf]; omega
        · go_wp2_with fail
          go_ret
          exact ⟨rfl, HBW.out.trans (HBQ.out.mono (by omega))⟩

set_option maxRecDepth 100000 in
theorem open_values {H : Type} {enc : TypeId × Value → H} {W : World} {r : Reach} {base : Nat} {x : Value} {d : DataW H} {ps : List MemPlace} (hval : Value.okWide Tryz.prog W r base 22 x) (h : DataW.Trod enc Tryz.prog W 0 (fun _ => true) true 22 x d ps) (hw : (d.weights Tryz.prog 22).all (· ≤ 140737488351232) = true) :
    ∃ l : List V, (l.length ≤ 140737488351232 ∧ OkL l) ∧ IsVs W.heap.size W l x := by
  obtain ⟨a, len, cap, rfl⟩ := okWide_slice Tryz.underlying22 hval
  obtain ⟨f, hf⟩ := h
  obtain ⟨l, h1, h2, a', cap', e, h3, h4⟩ := open_args (fun m _ => open_val m) hf hw
  exact ⟨l, ⟨h1, h2⟩, a', cap', e, h3, h4⟩
theorem back_law (l : List V) (x : Value) (w : World) (hx : IsVs w.heap.size w l x) (hok : l.length ≤ 140737488351232 ∧ OkL l) (htab : ∀ w', Below w.heap.size w w' → Tab w') :
    Calls Tryz.prog 8 #[x] w fun e w' => e = .returned (.bool true) ∧ Below w.heap.size w w' := back_walk l x w hx hok.1 hok.2 htab
end Go.Proofs.YtnddcicadmbmkaaGreatDoor
