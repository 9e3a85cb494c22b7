/- How two stand: the document's walk (printed by genstand.py). -/
import Derived.Test.YtnddcicadmbmkaaGreatDoorA7
namespace Go.Proofs.YtnddcicadmbmkaaGreatDoor
open Go.RowKit

set_option maxRecDepth 100000 in
set_option maxHeartbeats 4000000 in
theorem rstand_any (N : Nat) : ∀ (v u : V) (x y : Value) (B : Nat) (w : World), v.sz < N → IsV B w v x → IsV B w u y → B ≤ w.heap.size → v.Ok → u.Ok →
    Calls Tryz.prog 39 #[x, y] w fun e w' => e = .returned (.int .i64 (standV v u)) ∧ Below w.heap.size w w' := by
  induction N with
  | zero => intro v u x y B w h; omega
  | succ N ih =>
    intro v u x y B w hN hx hy hB hok hok2
    obtain ⟨a, cap, rfl, hcap, hel⟩ := hx.open
    obtain ⟨a2, cap2, rfl, hcap2, hel2⟩ := hy.open
    have hlen := ok_len hok
    have hlen2 := ok_len hok2
    have HIH := Lib.hid ih
    have HE := Lib.hid hel
    have HE2 := Lib.hid hel2
    have HOK := Lib.hid hok
    have HOK2 := Lib.hid hok2
    clear ih hel hel2 hok hok2 hx hy
    by_cases hk : v.k = u.k
    · have ek : (v.k != u.k) = false := by simp [hk]
      by_cases h1 : v.k = 1
      · have heq := Lib.hid (stand_num v u hk h1)
        have e1 : (v.k == 1) = true := by simp [h1]
        clear hk h1
        go_enter Tryz.func39, Tryz.ntmps39
        go_wp2_with fail
        refine (rorder_any v.n u.n _).mono ?_
        rintro e w1 ⟨rfl, rfl⟩
        go_wp2_with fail
        go_ret
        exact ⟨ret_int heq.out.symm, two_below _ _ _⟩
      by_cases h2 : v.k = 2
      · have heq := Lib.hid (stand_sym v u hk h2)
        have e1 : (v.k == 1) = false := by simp [h1]
        have e2 : (v.k == 2) = true := by simp [h2]
        clear hk h1 h2
        go_enter Tryz.func39, Tryz.ntmps39
        go_wp2_with fail
        refine (rtexts_any v.s u.s _).mono ?_
        rintro e w1 ⟨rfl, rfl⟩
        go_wp2_with fail
        go_ret
        exact ⟨ret_int heq.out.symm, two_below _ _ _⟩
      by_cases h3 : v.k = 3
      · have heq := Lib.hid (stand_con v u hk h3)
        have e1 : (v.k == 1) = false := by simp [h1]
        have e2 : (v.k == 2) = false := by simp [h2]
        have e3 : (v.k == 3) = true := by simp [h3]
        have e3' : (v.k != 3) = false := by simp [h3]
        clear hk h1 h2 h3
        obtain ⟨q0, hq0⟩ : ∃ q0, cmpS v.s u.s = q0 := ⟨_, rfl⟩
        have hq0b := cmpS_bd v.s u.s
        have hq0z := cmpS_zero v.s u.s
        rw [hq0] at hq0b hq0z
        obtain ⟨q1, hq1⟩ : ∃ q1, cmpI v.ps.length u.ps.length = q1 := ⟨_, rfl⟩
        have hq1b := cmpI_bd v.ps.length u.ps.length
        have hq1z := cmpI_zero v.ps.length u.ps.length
        rw [hq1] at hq1b hq1z
        have HQ0 := Lib.hid hq0z
        have HQ1 := Lib.hid hq1z
        clear hq0z hq1z
        go_enter Tryz.func39, Tryz.ntmps39
        go_wp2_with fail
        obtain ⟨W0, hW0⟩ : ∃ W0, W0 = (w.alloc (.cells #[.int .i64 v.k, .int .i64 v.n, .string v.s, .slice a v.ps.length cap] 24)).alloc (.cells #[.int .i64 u.k, .int .i64 u.n, .string u.s, .slice a2 u.ps.length cap2] 24) := ⟨_, rfl⟩
        have hb0 : W0.heap[w.heap.size]? = some (.cells #[.int .i64 v.k, .int .i64 v.n, .string v.s, .slice a v.ps.length cap] 24 (0, 0)) := by rw [hW0, heap_alloc_old _ _ (by simp)]; exact heap_alloc_new _ _
        have hb1 : W0.heap[w.heap.size + 1]? = some (.cells #[.int .i64 u.k, .int .i64 u.n, .string u.s, .slice a2 u.ps.length cap2] 24 (0, 0)) := by
          have := heap_alloc_new (w.alloc (.cells #[.int .i64 v.k, .int .i64 v.n, .string v.s, .slice a v.ps.length cap] 24)) (.cells #[.int .i64 u.k, .int .i64 u.n, .string u.s, .slice a2 u.ps.length cap2] 24)
          rw [hW0]
          simpa using this
        have hz0 : W0.heap.size = w.heap.size + 2 := by rw [hW0]; simp
        have hB0 : Below w.heap.size w W0 := by rw [hW0]; exact two_below _ _ _
        rw [← hW0]
        have HB0 := Lib.hid hB0
        have Hb0 := Lib.hid hb0
        have Hb1 := Lib.hid hb1
        clear hW0 hB0
        have hcs := hq0 ▸ rtexts_any v.s u.s W0
        refine hcs.mono ?_
        clear hcs
        rintro e w1 ⟨rfl, rfl⟩
        obtain ⟨c0, c1, c2, c3⟩ := block4 hb0
        obtain ⟨d0, d1, d2, d3⟩ := block4 hb1
        clear hb0 hb1
        by_cases hs : v.s = u.s
        · have hq00 : q0 = 0 := HQ0.out.2 hs
          subst hq00
          have HS := Lib.hid hs
          go_wp2_with fail
          have hcs : Calls Tryz.prog 58 #[.int .i64 v.ps.length, .int .i64 u.ps.length] W0 fun e w' => e = .returned (.int .i64 q1) ∧ W0 = w' := hq1 ▸ rorder_any v.ps.length u.ps.length W0
          refine hcs.mono ?_
          clear hcs
          rintro e w1 ⟨rfl, rfl⟩
          by_cases hl : v.ps.length = u.ps.length
          · have hq10 : q1 = 0 := HQ1.out.2 (by omega)
            subst hq10
            have heq2 := Lib.hid (show standV v u = standVs v.ps u.ps by rw [heq.out, if_neg (by simp [hs]), if_neg (by simp [hl])])
            have HL := Lib.hid hl
            clear hs hl
            go_wp2_with fail
            clear c0 c1 c2 c3 d0 d1 d2 d3
            go_loopw [5, 6] (fun n i wr => ∃ (k : Nat) (m : Int), k ≤ v.ps.length ∧ i = .int .i64 k ∧ n = .int .i64 m ∧ -1 ≤ m ∧ m ≤ 1 ∧ ((m = 0 ∧ standVs (v.ps.drop k) (u.ps.drop k) = standV v u) ∨ (m ≠ 0 ∧ m = standV v u)) ∧ Below W0.heap.size W0 wr) (fun _ i _ => v.ps.length - (intOf i).toNat)
            case atStart => exact ⟨0, 0, Nat.zero_le _, rfl, rfl, by omega, by omega, .inl ⟨rfl, by rw [heq2.out]; rfl⟩, Below.refl _ _⟩
            case round =>
              obtain ⟨k, m, hk, rfl, rfl, hm0, hm1, hq2, hBw⟩ := hrel
              have HQ := Lib.hid hq2
              have HBw := Lib.hid hBw
              have hbz := hBw.size
              clear hq2 hBw
              obtain ⟨_, _, _, hc3⟩ := block4 ((HBw.out.block w.heap.size (by omega)).trans Hb0.out)
              obtain ⟨_, _, _, hd3⟩ := block4 ((HBw.out.block (w.heap.size + 1) (by omega)).trans Hb1.out)
              by_cases hlt : k < v.ps.length
              · by_cases hmz : m = 0
                · subst hmz
                  have HQ3 := Lib.hid (show standVs (v.ps.drop k) (u.ps.drop k) = standV v u from by rcases HQ.out with h | h; exact h.2; exact absurd rfl h.1)
                  clear hm0 hm1
                  have hlt2 : k < u.ps.length := by have := HL.out; omega
                  obtain ⟨b, off, rfl, hbB, hels⟩ := HE.out.resolve_left (by intro e; rw [e] at hlt; simp at hlt)
                  obtain ⟨b2, off2, rfl, hbB2, hels2⟩ := HE2.out.resolve_left (by intro e; rw [e] at hlt2; simp at hlt2)
                  have hBall : Below B w wr := (HB0.out.mono hB).trans (HBw.out.mono (by omega))
                  obtain ⟨sl, e0, e1, e2, e3, hsub⟩ := (hels.below hBall hbB).at hlt
                  obtain ⟨sl2, g0, g1, g2, g3, hsub2⟩ := (hels2.below hBall hbB2).at hlt2
                  have HS1 := Lib.hid (sub_isV hsub)
                  have HS2 := Lib.hid (sub_isV hsub2)
                  have hm := Lib.hid (nthV_mem hlt)
                  have hm2 := Lib.hid (nthV_mem hlt2)
                  clear hsub hsub2 hels hels2 hBall
                  obtain ⟨q, hq⟩ : ∃ q, standV (nthV v.ps k) (nthV u.ps k) = q := ⟨_, rfl⟩
                  have hqb := standV_bd (nthV v.ps k) (nthV u.ps k)
                  rw [hq] at hqb
                  go_wp2_with fail
                  go_still_tail 10, (by kernel_rfl)
                  obtain ⟨w2, hw2⟩ : ∃ w2, w2 = wr.drew := ⟨_, rfl⟩
                  have hB2 : Below wr.heap.size wr w2 := by rw [hw2]; exact (Below.refl _ _).drew
                  change wpList _ _ _ _ _ wr.drew
                  rw [← hw2]
                  have hz2 := hB2.size
                  have hc := HIH.out (nthV v.ps k) (nthV u.ps k) _ _ B w2 (by have := size_part hm.out; omega) (HS1.out.below (hB2.mono (by omega))) (HS2.out.below (hB2.mono (by omega))) (by omega) (ok_part HOK.out hm.out) (ok_part HOK2.out hm2.out)
                  rw [hq] at hc
                  have HB2 := Lib.hid hB2
                  have HC := Lib.hid hc
                  clear hB2 hw2 hc e0 e1 e2 e3 g0 g1 g2 g3 hc3 hd3
                  go_wp2_with fail
                  refine HC.out.mono ?_
                  clear HC
                  rintro e W3 ⟨rfl, hb3⟩
                  have HB3 := Lib.hid hb3
                  clear hb3
                  have hBl : Hid (Below W0.heap.size W0 W3) := Lib.hid (HBw.out.trans ((HB2.out.trans (HB3.out.mono (by omega))).mono (by omega)))
                  have hst := Lib.hid (standVs_drop hlt hlt2)
                  rw [hq] at hst
                  have hst2 := Lib.hid (show (q = 0 ∧ standVs (v.ps.drop (k + 1)) (u.ps.drop (k + 1)) = standV v u) ∨ (q ≠ 0 ∧ q = standV v u) by
                    by_cases h0 : q = 0
                    · exact .inl ⟨h0, by rw [← HQ3.out, hst.out, if_neg (by simp [h0])]⟩
                    · exact .inr ⟨h0, by rw [← HQ3.out, hst.out, if_pos h0]⟩)
                  go_wp2_with fail
                  go_roundw
                  case rel => exact ⟨k + 1, q, by omega, by go_num, rfl, by omega, by omega, hst2.out, hBl.out⟩
                  case measure => simp [intOf]; omega
                · have z1 : (m == 0) = false := by simp [hmz]
                  have hfin := Lib.hid (show m = standV v u from by rcases HQ.out with h | h; exact absurd h.1 hmz; exact h.2)
                  clear hmz
                  go_wp2_with fail
                  go_ret
                  exact ⟨ret_int hfin.out, HB0.out.trans (HBw.out.mono (by omega))⟩
              · have hfin := Lib.hid (show m = standV v u from by rcases HQ.out with h | h; rw [h.1, ← h.2, standVs_end hlt]; exact h.2)
                go_wp2_with fail
                go_ret
                exact ⟨ret_int hfin.out, HB0.out.trans (HBw.out.mono (by omega))⟩
          · have hne : q1 ≠ 0 := fun e => hl (by have := HQ1.out.1 e; omega)
            have z1 : (q1 == 0) = false := by simp [hne]
            have heq2 := Lib.hid (show standV v u = q1 by rw [heq.out, if_neg (by simp [hs]), if_pos hl, hq1])
            clear hs hl hne
            go_wp2_with fail
            go_loopw [5, 6] (fun n i wr => n = .int .i64 q1 ∧ i = .int .i64 0 ∧ wr = W0) (fun _ i _ => v.ps.length - (intOf i).toNat)
            case atStart => exact ⟨rfl, rfl, rfl⟩
            case round =>
              obtain ⟨rfl, rfl, rfl⟩ := hrel
              by_cases hlt : (0 : Int) < v.ps.length
              all_goals
                go_wp2_with fail
                go_ret
                exact ⟨ret_int heq2.out.symm, HB0.out⟩
        · have hne : q0 ≠ 0 := fun e => hs (HQ0.out.1 e)
          have z0 : (q0 == 0) = false := by simp [hne]
          have heq2 := Lib.hid (show standV v u = q0 by rw [heq.out, if_pos hs, hq0])
          clear hs hne
          go_wp2_with fail
          go_loopw [5, 6] (fun n i wr => n = .int .i64 q0 ∧ i = .int .i64 0 ∧ wr = W0) (fun _ i _ => v.ps.length - (intOf i).toNat)
          case atStart => exact ⟨rfl, rfl, rfl⟩
          case round =>
            obtain ⟨rfl, rfl, rfl⟩ := hrel
            by_cases hlt : (0 : Int) < v.ps.length
            all_goals
              go_wp2_with fail
              go_ret
              exact ⟨ret_int heq2.out.symm, HB0.out⟩

      · have heq := Lib.hid (stand_odd v u hk h1 h2 h3)
        have e1 : (v.k == 1) = false := by simp [h1]
        have e2 : (v.k == 2) = false := by simp [h2]
        have e3 : (v.k == 3) = false := by simp [h3]
        have e3' : (v.k != 3) = true := by simp [h3]
        clear hk h1 h2 h3
        go_enter Tryz.func39, Tryz.ntmps39
        go_wp2_with fail
        go_ret
        exact ⟨ret_int heq.out.symm, two_below _ _ _⟩
    · have ek : (v.k != u.k) = true := by simp [hk]
      have heq := Lib.hid (stand_kind v u hk)
      clear hk
      go_enter Tryz.func39, Tryz.ntmps39
      go_wp2_with fail
      refine (rorder_any v.k u.k _).mono ?_
      rintro e w1 ⟨rfl, rfl⟩
      go_wp2_with fail
      go_ret
      exact ⟨ret_int heq.out.symm, two_below _ _ _⟩

end Go.Proofs.YtnddcicadmbmkaaGreatDoor
