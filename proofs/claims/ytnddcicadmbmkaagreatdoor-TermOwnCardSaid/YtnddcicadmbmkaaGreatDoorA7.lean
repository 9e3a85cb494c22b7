/- How two stand: the two texts' walks (printed by genstand.py). -/
import Derived.Test.YtnddcicadmbmkaaGreatDoorA6
import Derived.StillTailTactics
namespace Go.Proofs.YtnddcicadmbmkaaGreatDoor
open Go.RowKit

theorem stand_kind (v u : V) (h : v.k ≠ u.k) : standV v u = cmpI v.k u.k := by
  cases v; cases u; simp only [V.k] at h ⊢; unfold standV; rw [if_pos h]
theorem stand_num (v u : V) (h : v.k = u.k) (h1 : v.k = 1) : standV v u = cmpI v.n u.n := by
  cases v; cases u; simp only [V.k, V.n] at h h1 ⊢; unfold standV; rw [if_neg (by simp [h]), if_pos h1]
theorem stand_sym (v u : V) (h : v.k = u.k) (h1 : v.k = 2) : standV v u = cmpS v.s u.s := by
  cases v; cases u; simp only [V.k, V.s] at h h1 ⊢; unfold standV; rw [if_neg (by simp [h]), if_neg (by omega), if_pos h1]
theorem stand_odd (v u : V) (h : v.k = u.k) (h1 : v.k ≠ 1) (h2 : v.k ≠ 2) (h3 : v.k ≠ 3) : standV v u = 0 := by
  cases v; cases u; simp only [V.k] at h h1 h2 h3; unfold standV; rw [if_neg (by simp [h]), if_neg h1, if_neg h2, if_pos h3]
theorem stand_con (v u : V) (h : v.k = u.k) (h1 : v.k = 3) : standV v u = if v.s ≠ u.s then cmpS v.s u.s else if v.ps.length ≠ u.ps.length then cmpI v.ps.length u.ps.length else standVs v.ps u.ps := by
  cases v; cases u; simp only [V.k, V.s, V.ps] at h h1 ⊢; unfold standV; rw [if_neg (by simp [h]), if_neg (by omega), if_neg (by omega), if_neg (by simp [h1])]; rfl
theorem standVs_drop {l m : List V} {k : Nat} (h : k < l.length) (h2 : k < m.length) : standVs (l.drop k) (m.drop k) = if standV (nthV l k) (nthV m k) ≠ 0 then standV (nthV l k) (nthV m k) else standVs (l.drop (k + 1)) (m.drop (k + 1)) := by
  rw [drop_nth h, drop_nth h2, standVs]
theorem standVs_end {l m : List V} {k : Nat} (h : ¬ k < l.length) : standVs (l.drop k) (m.drop k) = 0 := by
  rw [List.drop_eq_nil_of_le (by omega)]; rfl
theorem cmpS_zero (a b : ByteArray) : cmpS a b = 0 ↔ a = b := by
  unfold cmpS
  constructor
  · intro h
    rcases lex_tri a.data.toList b.data.toList with h3 | h3 | h3
    · rw [if_pos h3] at h; omega
    · cases a; cases b; simp at h3; rw [h3]
    · by_cases h4 : a.data.toList < b.data.toList
      · rw [if_pos h4] at h; omega
      · rw [if_neg h4, if_pos h3] at h; omega
  · rintro rfl
    rw [if_neg (List.lt_irrefl _), if_neg (List.lt_irrefl _)]
theorem cmpI_zero (a b : Int) : cmpI a b = 0 ↔ a = b := by
  unfold cmpI
  repeat' split
  all_goals omega
theorem cmpI_bd (a b : Int) : -1 ≤ cmpI a b ∧ cmpI a b ≤ 1 := by
  unfold cmpI
  repeat' split
  all_goals omega
theorem cmpS_bd (a b : ByteArray) : -1 ≤ cmpS a b ∧ cmpS a b ≤ 1 := by
  unfold cmpS
  repeat' split
  all_goals omega
mutual
theorem standV_bd : ∀ (v u : V), -1 ≤ standV v u ∧ standV v u ≤ 1
  | .mk k n s ps, .mk k' n' s' ps' => by
    unfold standV
    have h1 := cmpI_bd k k'
    have h2 := cmpI_bd n n'
    have h3 := cmpS_bd s s'
    have h4 := cmpI_bd ps.length ps'.length
    have h5 := standVs_bd ps ps'
    repeat' split
    all_goals omega
theorem standVs_bd : ∀ (l m : List V), -1 ≤ standVs l m ∧ standVs l m ≤ 1
  | [], _ => by unfold standVs; omega
  | _ :: _, [] => by unfold standVs; omega
  | x :: r, y :: q => by
    unfold standVs
    have h1 := standV_bd x y
    have h2 := standVs_bd r q
    split
    all_goals omega
end
theorem two_below (w : World) (o1 o2 : Obj) : Below w.heap.size w ((w.alloc o1).alloc o2) := ((Below.refl _ _).alloc (Nat.le_refl _) _).alloc (by simp) _
theorem str_eq (a b : ByteArray) : (a.toList == b.toList) = decide (a = b) := by
  rw [Bool.eq_iff_iff]
  simp only [beq_iff_eq, decide_eq_true_eq, ByteArray.toList_eq]
  constructor
  · intro h; cases a; cases b; simp at h; rw [h]
  · rintro rfl; rfl

set_option maxRecDepth 100000 in
set_option maxHeartbeats 4000000 in
theorem stand_any (N : Nat) : ∀ (v u : V) (x y : Value) (B : Nat) (w : World), v.sz < N → IsV B w v x → IsV B w u y → B ≤ w.heap.size → v.Ok → u.Ok →
    Calls Tryz.prog 34 #[x, y] w fun e w' => e = .returned (.int .i64 (standV v u)) ∧ Below w.heap.size w w' := by
  induction N with
  | zero => intro v u x y B w h; omega
  | succ N ih =>
    intro v u x y B w hN hx hy hB hok hok2
    obtain ⟨a, cap, rfl, hcap, hel⟩ := hx.open
    obtain ⟨a2, cap2, rfl, hcap2, hel2⟩ := hy.open
    have hlen := ok_len hok
    have hlen2 := ok_len hok2
    have HIH := Lib.hid ih
    have HE := Lib.hid hel
    have HE2 := Lib.hid hel2
    have HOK := Lib.hid hok
    have HOK2 := Lib.hid hok2
    clear ih hel hel2 hok hok2 hx hy
    by_cases hk : v.k = u.k
    · have ek : (v.k != u.k) = false := by simp [hk]
      by_cases h1 : v.k = 1
      · have heq := Lib.hid (stand_num v u hk h1)
        have e1 : (v.k == 1) = true := by simp [h1]
        clear hk h1
        go_enter Tryz.func34, Tryz.ntmps34
        go_wp2_with fail
        refine (cmp_any v.n u.n _).mono ?_
        rintro e w1 ⟨rfl, rfl⟩
        go_wp2_with fail
        go_ret
        exact ⟨ret_int heq.out.symm, two_below _ _ _⟩
      by_cases h2 : v.k = 2
      · have heq := Lib.hid (stand_sym v u hk h2)
        have e1 : (v.k == 1) = false := by simp [h1]
        have e2 : (v.k == 2) = true := by simp [h2]
        clear hk h1 h2
        go_enter Tryz.func34, Tryz.ntmps34
        go_wp2_with fail
        refine (scmp_any v.s u.s _).mono ?_
        rintro e w1 ⟨rfl, rfl⟩
        go_wp2_with fail
        go_ret
        exact ⟨ret_int heq.out.symm, two_below _ _ _⟩
      by_cases h3 : v.k = 3
      · have heq := Lib.hid (stand_con v u hk h3)
        have e1 : (v.k == 1) = false := by simp [h1]
        have e2 : (v.k == 2) = false := by simp [h2]
        have e3 : (v.k == 3) = true := by simp [h3]
        have e3' : (v.k != 3) = false := by simp [h3]
        clear hk h1 h2 h3
        by_cases hs : v.s = u.s
        · have es : (v.s.toList == u.s.toList) = true := by rw [str_eq]; simp [hs]
          by_cases hl : v.ps.length = u.ps.length
          · have el : ((v.ps.length : Int) == u.ps.length) = true := by simp [hl]
            have el' : ((v.ps.length : Int) != u.ps.length) = false := by simp [hl]
            have heq2 := Lib.hid (show standV v u = standVs v.ps u.ps by rw [heq.out, if_neg (by simp [hs]), if_neg (by simp [hl])])
            have HS := Lib.hid hs
            have HL := Lib.hid hl
            clear hs hl
            go_enter Tryz.func34, Tryz.ntmps34
            go_wp2_with fail
            obtain ⟨W0, hW0⟩ : ∃ W0, W0 = (w.alloc (.cells #[.int .i64 v.k, .int .i64 v.n, .string v.s, .slice a v.ps.length cap] 24)).alloc (.cells #[.int .i64 u.k, .int .i64 u.n, .string u.s, .slice a2 u.ps.length cap2] 24) := ⟨_, rfl⟩
            have hb0 : W0.heap[w.heap.size]? = some (.cells #[.int .i64 v.k, .int .i64 v.n, .string v.s, .slice a v.ps.length cap] 24 (0, 0)) := by rw [hW0, heap_alloc_old _ _ (by simp)]; exact heap_alloc_new _ _
            have hb1 : W0.heap[w.heap.size + 1]? = some (.cells #[.int .i64 u.k, .int .i64 u.n, .string u.s, .slice a2 u.ps.length cap2] 24 (0, 0)) := by
              have := heap_alloc_new (w.alloc (.cells #[.int .i64 v.k, .int .i64 v.n, .string v.s, .slice a v.ps.length cap] 24)) (.cells #[.int .i64 u.k, .int .i64 u.n, .string u.s, .slice a2 u.ps.length cap2] 24)
              rw [hW0]
              simpa using this
            have hz0 : W0.heap.size = w.heap.size + 2 := by rw [hW0]; simp
            have hB0 : Below w.heap.size w W0 := by rw [hW0]; exact two_below _ _ _
            rw [← hW0]
            have HB0 := Lib.hid hB0
            have Hb0 := Lib.hid hb0
            have Hb1 := Lib.hid hb1
            clear hW0 hB0 hb0 hb1
            go_loopw [69] (fun i wr => ∃ (k : Nat), k ≤ v.ps.length ∧ i = .int .i64 k ∧ standVs (v.ps.drop k) (u.ps.drop k) = standV v u ∧ Below W0.heap.size W0 wr) (fun i _ => v.ps.length - (intOf i).toNat)
            case atStart => exact ⟨0, Nat.zero_le _, rfl, by rw [heq2.out]; rfl, Below.refl _ _⟩
            case round =>
              obtain ⟨k, hk, rfl, hq2, hBw⟩ := hrel
              have HQ := Lib.hid hq2
              have HBw := Lib.hid hBw
              have hbz := hBw.size
              clear hq2 hBw
              by_cases hlt : k < v.ps.length
              · have hlt2 : k < u.ps.length := by have := HL.out; omega
                obtain ⟨b, off, rfl, hbB, hels⟩ := HE.out.resolve_left (by intro e; rw [e] at hlt; simp at hlt)
                obtain ⟨b2, off2, rfl, hbB2, hels2⟩ := HE2.out.resolve_left (by intro e; rw [e] at hlt2; simp at hlt2)
                have hBall : Below B w wr := (HB0.out.mono hB).trans (HBw.out.mono (by omega))
                obtain ⟨sl, e0, e1, e2, e3, hsub⟩ := (hels.below hBall hbB).at hlt
                obtain ⟨sl2, g0, g1, g2, g3, hsub2⟩ := (hels2.below hBall hbB2).at hlt2
                obtain ⟨_, _, _, hc3⟩ := block4 ((HBw.out.block w.heap.size (by omega)).trans Hb0.out)
                obtain ⟨_, _, _, hd3⟩ := block4 ((HBw.out.block (w.heap.size + 1) (by omega)).trans Hb1.out)
                have HS1 := Lib.hid (sub_isV hsub)
                have HS2 := Lib.hid (sub_isV hsub2)
                have hm := Lib.hid (nthV_mem hlt)
                have hm2 := Lib.hid (nthV_mem hlt2)
                clear hsub hsub2 hels hels2 hBall
                obtain ⟨q, hq⟩ : ∃ q, standV (nthV v.ps k) (nthV u.ps k) = q := ⟨_, rfl⟩
                have hqb := standV_bd (nthV v.ps k) (nthV u.ps k)
                rw [hq] at hqb
                go_wp2_with fail
                go_still_tail 10, (by kernel_rfl)
                obtain ⟨w2, hw2⟩ : ∃ w2, w2 = wr.drew := ⟨_, rfl⟩
                have hB2 : Below wr.heap.size wr w2 := by rw [hw2]; exact (Below.refl _ _).drew
                change wpList _ _ _ _ _ wr.drew
                rw [← hw2]
                have hz2 := hB2.size
                have hc := HIH.out (nthV v.ps k) (nthV u.ps k) _ _ B w2 (by have := size_part hm.out; omega) (HS1.out.below (hB2.mono (by omega))) (HS2.out.below (hB2.mono (by omega))) (by omega) (ok_part HOK.out hm.out) (ok_part HOK2.out hm2.out)
                rw [hq] at hc
                have HB2 := Lib.hid hB2
                have HC := Lib.hid hc
                clear hB2 hw2 hc e0 e1 e2 e3 g0 g1 g2 g3 hc3 hd3
                go_wp2_with fail
                refine HC.out.mono ?_
                clear HC
                rintro e W3 ⟨rfl, hb3⟩
                have HB3 := Lib.hid hb3
                clear hb3
                have hBl : Hid (Below W0.heap.size W0 W3) := Lib.hid (HBw.out.trans ((HB2.out.trans (HB3.out.mono (by omega))).mono (by omega)))
                have hst := Lib.hid (standVs_drop hlt hlt2)
                rw [hq] at hst
                by_cases h0 : q = 0
                · have z0 : (q != 0) = false := by simp [h0]
                  have z1 : (q == 0) = true := by simp [h0]
                  have hst2 := Lib.hid (show standVs (v.ps.drop (k + 1)) (u.ps.drop (k + 1)) = standV v u by rw [← HQ.out, hst.out, if_neg (by simp [h0])])
                  clear h0
                  go_wp2_with fail
                  go_roundw
                  case rel => exact ⟨k + 1, by omega, by go_num, hst2.out, hBl.out⟩
                  case measure => simp [intOf]; omega
                · have z0 : (q != 0) = true := by simp [h0]
                  have z1 : (q == 0) = false := by simp [h0]
                  have hst2 := Lib.hid (show q = standV v u by rw [← HQ.out, hst.out, if_pos h0])
                  clear h0
                  go_wp2_with fail
                  go_ret
                  exact ⟨ret_int hst2.out, HB0.out.trans (hBl.out.mono (by omega))⟩
              · have hfin := Lib.hid (show 0 = standV v u from by rw [← HQ.out, standVs_end hlt])
                go_wp2_with fail
                go_ret
                exact ⟨ret_int hfin.out, HB0.out.trans (HBw.out.mono (by omega))⟩
          · have el : ((v.ps.length : Int) == u.ps.length) = false := by simp; omega
            have el' : ((v.ps.length : Int) != u.ps.length) = true := by simp; omega
            have heq2 := Lib.hid (show standV v u = cmpI v.ps.length u.ps.length by rw [heq.out, if_neg (by simp [hs]), if_pos hl])
            clear hs hl
            go_enter Tryz.func34, Tryz.ntmps34
            go_wp2_with fail
            refine (cmp_any v.ps.length u.ps.length _).mono ?_
            rintro e w1 ⟨rfl, rfl⟩
            go_wp2_with fail
            go_ret
            exact ⟨ret_int heq2.out.symm, two_below _ _ _⟩
        · have es : (v.s.toList == u.s.toList) = false := by rw [str_eq]; simp [hs]
          have heq2 := Lib.hid (show standV v u = cmpS v.s u.s by rw [heq.out, if_pos hs])
          clear hs
          go_enter Tryz.func34, Tryz.ntmps34
          go_wp2_with fail
          refine (scmp_any v.s u.s _).mono ?_
          rintro e w1 ⟨rfl, rfl⟩
          go_wp2_with fail
          go_ret
          exact ⟨ret_int heq2.out.symm, two_below _ _ _⟩
      · have heq := Lib.hid (stand_odd v u hk h1 h2 h3)
        have e1 : (v.k == 1) = false := by simp [h1]
        have e2 : (v.k == 2) = false := by simp [h2]
        have e3 : (v.k == 3) = false := by simp [h3]
        have e3' : (v.k != 3) = true := by simp [h3]
        clear hk h1 h2 h3
        go_enter Tryz.func34, Tryz.ntmps34
        go_wp2_with fail
        go_ret
        exact ⟨ret_int heq.out.symm, two_below _ _ _⟩
    · have ek : (v.k != u.k) = true := by simp [hk]
      have heq := Lib.hid (stand_kind v u hk)
      clear hk
      go_enter Tryz.func34, Tryz.ntmps34
      go_wp2_with fail
      refine (cmp_any v.k u.k _).mono ?_
      rintro e w1 ⟨rfl, rfl⟩
      go_wp2_with fail
      go_ret
      exact ⟨ret_int heq.out.symm, two_below _ _ _⟩

end Go.Proofs.YtnddcicadmbmkaaGreatDoor
