/- Which values may be: the two texts' walks. -/
import Derived.Test.YtnddcicadmbmkaaGreatDoorA4
namespace Go.Proofs.YtnddcicadmbmkaaGreatDoor
open Go.RowKit

theorem mayV_num (v : V) (d : Int) (h : v.k = 1) : mayV v d = (decide (v.s = ⟨#[]⟩) && decide (v.ps.length = 0)) := by
  cases v; simp only [V.k] at h; unfold mayV; rw [if_pos h]; rfl
theorem mayV_sym (v : V) (d : Int) (h : v.k = 2) : mayV v d = (decide (v.n = 0) && decide (v.ps.length = 0) && decide (v.s.size ≤ 65536)) := by
  cases v; simp only [V.k] at h; unfold mayV; rw [if_neg (by omega), if_pos h]; rfl
theorem mayV_con (v : V) (d : Int) (h : v.k = 3) : mayV v d = (decide (v.n = 0) && wordB v.s && decide (v.ps.length ≤ 8) && decide (d < 32) && mayVs v.ps (d + 1)) := by
  cases v; simp only [V.k] at h; unfold mayV; rw [if_neg (by omega), if_neg (by omega), if_pos h]; rfl
theorem mayV_other (v : V) (d : Int) (h1 : v.k ≠ 1) (h2 : v.k ≠ 2) (h3 : v.k ≠ 3) : mayV v d = false := by
  cases v; simp only [V.k] at h1 h2 h3; unfold mayV; rw [if_neg h1, if_neg h2, if_neg h3]
theorem ok_str {v : V} (h : v.Ok) : v.s.size ≤ 140737488351232 := by
  cases v; unfold V.Ok at h; exact h.2.2.1
theorem empty_iff (s : ByteArray) : s.toList = [] ↔ s = ⟨#[]⟩ := by
  rw [ByteArray.toList_eq]
  constructor
  · intro h
    cases s with
    | mk d => simp at h; rw [h]
  · rintro rfl; rfl
theorem ret_b {e : Ending} {a b : Bool} {P : Prop} (h : e = .returned (.bool a) ∧ P) (hab : a = b) : e = .returned (.bool b) ∧ P := hab ▸ h

theorem mayVs_drop {l : List V} {k : Nat} {d : Int} (h : k < l.length) : mayVs (l.drop k) d = (mayV (nthV l k) d && mayVs (l.drop (k + 1)) d) := by
  rw [drop_nth h]; rfl
theorem mayVs_end {l : List V} {k : Nat} {d : Int} (h : ¬ k < l.length) : mayVs (l.drop k) d = true := by
  rw [List.drop_eq_nil_of_le (by omega)]; rfl

theorem sub_slice {B : Nat} {w : World} {v : V} {sl : Value} (h : Sub B w v sl) : ∃ a cap, sl = .slice a v.ps.length cap := by
  cases v with
  | mk k n s ps => unfold Sub at h; obtain ⟨a, cap, rfl, _⟩ := h; exact ⟨a, cap, rfl⟩

set_option maxRecDepth 100000 in
set_option maxHeartbeats 4000000 in
theorem may_any (N : Nat) : ∀ (v : V) (x : Value) (d : Nat) (B : Nat) (w : World), v.sz < N → IsV B w v x → B ≤ w.heap.size → v.Ok → d ≤ 32 →
    Calls Tryz.prog 36 #[x, .int .i64 d] w fun e w' => e = .returned (.bool (mayV v d)) ∧ Below w.heap.size w w' := by
  induction N with
  | zero => intro v x d B w h; omega
  | succ N ih =>
    intro v x d B w hN hx hB hok hd
    obtain ⟨a, cap, rfl, hcap, hel⟩ := hx.open
    have hlen := ok_len hok
    have hstr := ok_str hok
    have HIH := Lib.hid ih
    have HE := Lib.hid hel
    have HOK := Lib.hid hok
    clear ih hel hok hx
    by_cases h1 : v.k = 1
    · have heq := Lib.hid (mayV_num v d h1)
      have hk1 : (v.k == 1) = true := by simp [h1]
      clear h1
      go_enter Tryz.func36, Tryz.ntmps36
      go_wp2_with fail
      all_goals
        go_ret
        refine ⟨ret_bool ?_, (Below.refl _ _).alloc (Nat.le_refl _) _⟩
        rw [heq.out, Bool.eq_iff_iff]
        simp [← empty_iff, *]
        try omega
    by_cases h2 : v.k = 2
    · have heq := Lib.hid (mayV_sym v d h2)
      have hk1 : (v.k == 1) = false := by simp [h1]
      have hk2 : (v.k == 2) = true := by simp [h2]
      clear h1 h2
      go_enter Tryz.func36, Tryz.ntmps36
      go_wp2_with fail
      all_goals
        go_ret
        refine ⟨ret_bool ?_, (Below.refl _ _).alloc (Nat.le_refl _) _⟩
        rw [heq.out, Bool.eq_iff_iff]
        simp [*]
        try omega
    by_cases h3 : v.k = 3
    · have heq := Lib.hid (mayV_con v d h3)
      have hk1 : (v.k == 1) = false := by simp [h1]
      have hk2 : (v.k == 2) = false := by simp [h2]
      have hk3 : (v.k == 3) = true := by simp [h3]
      clear h1 h2 h3
      by_cases hn : v.n = 0
      · have hn' : (v.n == 0) = true := by simp [hn]
        obtain ⟨bw, hbw⟩ : ∃ bw, wordB v.s = bw := ⟨_, rfl⟩
        have Hn := Lib.hid hn
        clear hn
        go_enter Tryz.func36, Tryz.ntmps36
        go_wp2_with fail
        obtain ⟨W0, hW0⟩ : ∃ W0, W0 = w.alloc (.cells #[.int .i64 v.k, .int .i64 0, .string v.s, .slice a v.ps.length cap] 24) := ⟨_, rfl⟩
        have hb0 : W0.heap[w.heap.size]? = some (.cells #[.int .i64 v.k, .int .i64 0, .string v.s, .slice a v.ps.length cap] 24 (0, 0)) := by rw [hW0]; exact heap_alloc_new _ _
        have hz0 : W0.heap.size = w.heap.size + 1 := by rw [hW0]; simp
        have hB0 : Below w.heap.size w W0 := by rw [hW0]; exact (Below.refl _ _).alloc (Nat.le_refl _) _
        rw [← hW0]
        have HB0 := Lib.hid hB0
        have Hb0 := Lib.hid hb0
        clear hW0 hB0 hb0
        refine (word_any v.s W0 hstr).mono ?_
        rintro e W1 ⟨rfl, hb1⟩
        have hz1 := hb1.size
        have hb1' : W1.heap[w.heap.size]? = some (.cells #[.int .i64 v.k, .int .i64 0, .string v.s, .slice a v.ps.length cap] 24 (0, 0)) := (hb1.block _ (by omega)).trans Hb0.out
        have hc3 : W1.cell? ⟨w.heap.size, 3, none⟩ = some (.slice a v.ps.length cap) := by simp [World.cell?, hb1']
        have HB1 := Lib.hid (HB0.out.trans (hb1.mono (by omega)))
        have Hb1 := Lib.hid hb1'
        clear hb1 hb1'
        rw [hbw]
        cases bw with
        | false =>
          go_wp2_with fail
          go_ret
          refine ⟨ret_bool ?_, HB1.out⟩
          rw [heq.out, hbw]
          simp
        | true =>
          by_cases h8 : v.ps.length ≤ 8
          · have e8 : decide ((8 : Int) < v.ps.length) = false := by simp; omega
            by_cases hdd : d < 32
            · have ed : decide ((32 : Int) ≤ d) = false := by simp; omega
              have heq2 := Lib.hid (show mayV v d = mayVs v.ps (d + 1) by rw [heq.out, hbw, decide_eq_true Hn.out, decide_eq_true h8, decide_eq_true (show (d : Int) < 32 by omega)]; rfl)
              go_wp2_with fail
              go_loopw [61] (fun i wr => ∃ (k : Nat), k ≤ v.ps.length ∧ i = .int .i64 k ∧ mayVs (v.ps.drop k) (d + 1) = mayV v d ∧ Below W1.heap.size W1 wr) (fun i _ => v.ps.length - (intOf i).toNat)
              case atStart => exact ⟨0, Nat.zero_le _, rfl, by rw [heq2.out]; rfl, Below.refl _ _⟩
              case round =>
                obtain ⟨k, hk, rfl, hq2, hBw⟩ := hrel
                have HQ := Lib.hid hq2
                have HBw := Lib.hid hBw
                have hbz := hBw.size
                clear hq2 hBw
                by_cases hlt : k < v.ps.length
                · obtain ⟨b, off, rfl, hbB, hels⟩ := HE.out.resolve_left (by intro e; rw [e] at hlt; simp at hlt)
                  have hBall : Below B w wr := (HB1.out.mono hB).trans (HBw.out.mono (by omega))
                  obtain ⟨sl, e0, e1, e2, e3, hsub⟩ := (hels.below hBall hbB).at hlt
                  obtain ⟨a2, cap2, rfl⟩ := sub_slice hsub
                  have HS := Lib.hid (sub_isV hsub)
                  have hm := Lib.hid (nthV_mem hlt)
                  clear hsub hels hBall
                  obtain ⟨bm, hbm⟩ : ∃ bm, mayV (nthV v.ps k) (d + 1) = bm := ⟨_, rfl⟩
                  go_wp2_with fail
                  obtain ⟨W2, hW2⟩ : ∃ W2, W2 = wr.alloc (.cells #[.int .i64 (nthV v.ps k).k, .int .i64 (nthV v.ps k).n, .string (nthV v.ps k).s, .slice a2 (nthV v.ps k).ps.length cap2] 24) := ⟨_, rfl⟩
                  have hB2 : Below wr.heap.size wr W2 := by rw [hW2]; exact (Below.refl _ _).alloc (Nat.le_refl _) _
                  rw [← hW2]
                  have hz2 := hB2.size
                  have hc := HIH.out (nthV v.ps k) _ (d + 1) B W2 (by have := size_part hm.out; omega) (HS.out.below (hB2.mono (by omega))) (by omega) (ok_part HOK.out hm.out) (by omega)
                  rw [show ((d + 1 : Nat) : Int) = (d : Int) + 1 by omega, hbm] at hc
                  have HB2 := Lib.hid hB2
                  clear hB2 hW2
                  refine hc.mono ?_
                  clear hc
                  rintro e W3 ⟨rfl, hb3⟩
                  have HB3 := Lib.hid hb3
                  clear hb3
                  have hBl : Hid (Below W1.heap.size W1 W3) := Lib.hid (HBw.out.trans ((HB2.out.trans (HB3.out.mono (by omega))).mono (by omega)))
                  cases bm with
                  | true =>
                    go_wp2_with fail
                    go_roundw
                    case rel => exact ⟨k + 1, by omega, by go_num, by rw [← HQ.out, mayVs_drop hlt, hbm]; rfl, hBl.out⟩
                    case measure => simp [intOf]; omega
                  | false =>
                    go_wp2_with fail
                    go_ret
                    exact ⟨ret_bool (by rw [← HQ.out, mayVs_drop hlt, hbm]; rfl), HB1.out.trans (hBl.out.mono (by omega))⟩
                · have hfin := Lib.hid (show true = mayV v d from by rw [← HQ.out, mayVs_end hlt])
                  go_wp2_with fail
                  go_ret
                  exact ⟨ret_bool hfin.out, HB1.out.trans (HBw.out.mono (by omega))⟩
            · have ed : decide ((32 : Int) ≤ d) = true := by simp; omega
              go_wp2_with fail
              go_ret
              refine ⟨ret_bool ?_, HB1.out⟩
              rw [heq.out, hbw, decide_eq_false (show ¬ (d : Int) < 32 by omega)]
              simp
          · have e8 : decide ((8 : Int) < v.ps.length) = true := by simp; omega
            go_wp2_with fail
            go_ret
            refine ⟨ret_bool ?_, HB1.out⟩
            rw [heq.out, hbw, decide_eq_false h8]
            simp
      · have hn' : (v.n == 0) = false := by simp [hn]
        have Hn := Lib.hid hn
        clear hn
        go_enter Tryz.func36, Tryz.ntmps36
        go_wp2_with fail
        go_ret
        refine ⟨ret_bool ?_, (Below.refl _ _).alloc (Nat.le_refl _) _⟩
        rw [heq.out, decide_eq_false Hn.out]
        rfl
    · have heq := Lib.hid (mayV_other v d h1 h2 h3)
      have hk1 : (v.k == 1) = false := by simp [h1]
      have hk2 : (v.k == 2) = false := by simp [h2]
      have hk3 : (v.k == 3) = false := by simp [h3]
      clear h1 h2 h3
      go_enter Tryz.func36, Tryz.ntmps36
      go_wp2_with fail
      go_ret
      exact ⟨ret_bool heq.out.symm, (Below.refl _ _).alloc (Nat.le_refl _) _⟩
set_option maxRecDepth 100000 in
set_option maxHeartbeats 4000000 in
theorem rmay_any (N : Nat) : ∀ (v : V) (x : Value) (d : Nat) (B : Nat) (w : World), v.sz < N → IsV B w v x → B ≤ w.heap.size → v.Ok → d ≤ 32 →
    Calls Tryz.prog 38 #[x, .int .i64 d] w fun e w' => e = .returned (.bool (mayV v d)) ∧ Below w.heap.size w w' := by
  induction N with
  | zero => intro v x d B w h; omega
  | succ N ih =>
    intro v x d B w hN hx hB hok hd
    obtain ⟨a, cap, rfl, hcap, hel⟩ := hx.open
    have hlen := ok_len hok
    have hstr := ok_str hok
    have HIH := Lib.hid ih
    have HE := Lib.hid hel
    have HOK := Lib.hid hok
    clear ih hel hok hx
    by_cases h1 : v.k = 1
    · have heq := Lib.hid (mayV_num v d h1)
      have hk1 : (v.k == 1) = true := by simp [h1]
      clear h1
      go_enter Tryz.func38, Tryz.ntmps38
      go_wp2_with fail
      all_goals
        go_ret
        refine ⟨ret_bool ?_, (Below.refl _ _).alloc (Nat.le_refl _) _⟩
        rw [heq.out, Bool.eq_iff_iff]
        simp [← empty_iff, *]
        try omega
    by_cases h2 : v.k = 2
    · have heq := Lib.hid (mayV_sym v d h2)
      have hk1 : (v.k == 1) = false := by simp [h1]
      have hk2 : (v.k == 2) = true := by simp [h2]
      clear h1 h2
      go_enter Tryz.func38, Tryz.ntmps38
      go_wp2_with fail
      all_goals
        go_ret
        refine ⟨ret_bool ?_, (Below.refl _ _).alloc (Nat.le_refl _) _⟩
        rw [heq.out, Bool.eq_iff_iff]
        simp [*]
        try omega
    by_cases h3 : v.k = 3
    · have heq := Lib.hid (mayV_con v d h3)
      have hk1 : (v.k == 1) = false := by simp [h1]
      have hk2 : (v.k == 2) = false := by simp [h2]
      clear h1 h2
      by_cases hn : v.n = 0
      · have hn' : (v.n == 0) = true := by simp [hn]
        obtain ⟨bw, hbw⟩ : ∃ bw, wordB v.s = bw := ⟨_, rfl⟩
        have Hn := Lib.hid hn
        clear hn
        go_enter Tryz.func38, Tryz.ntmps38
        go_wp2_with fail
        obtain ⟨W0, hW0⟩ : ∃ W0, W0 = w.alloc (.cells #[.int .i64 3, .int .i64 0, .string v.s, .slice a v.ps.length cap] 24) := ⟨_, rfl⟩
        have hb0 : W0.heap[w.heap.size]? = some (.cells #[.int .i64 3, .int .i64 0, .string v.s, .slice a v.ps.length cap] 24 (0, 0)) := by rw [hW0]; exact heap_alloc_new _ _
        have hz0 : W0.heap.size = w.heap.size + 1 := by rw [hW0]; simp
        have hB0 : Below w.heap.size w W0 := by rw [hW0]; exact (Below.refl _ _).alloc (Nat.le_refl _) _
        rw [← hW0]
        have HB0 := Lib.hid hB0
        have Hb0 := Lib.hid hb0
        clear hW0 hB0 hb0
        refine (rword_any v.s W0 hstr).mono ?_
        rintro e W1 ⟨rfl, hw1⟩
        have hb1 : Below W0.heap.size W0 W1 := hw1 ▸ Below.refl _ _
        clear hw1
        have hz1 := hb1.size
        have hb1' : W1.heap[w.heap.size]? = some (.cells #[.int .i64 3, .int .i64 0, .string v.s, .slice a v.ps.length cap] 24 (0, 0)) := (hb1.block _ (by omega)).trans Hb0.out
        have hc3 : W1.cell? ⟨w.heap.size, 3, none⟩ = some (.slice a v.ps.length cap) := by simp [World.cell?, hb1']
        have HB1 := Lib.hid (HB0.out.trans (hb1.mono (by omega)))
        have Hb1 := Lib.hid hb1'
        clear hb1 hb1'
        rw [hbw]
        cases bw with
        | false =>
          go_wp2_with fail
          go_ret
          refine ⟨ret_bool ?_, HB1.out⟩
          rw [heq.out, hbw]
          simp
        | true =>
          by_cases h8 : v.ps.length ≤ 8
          · have e8 : decide ((8 : Int) < v.ps.length) = false := by simp; omega
            by_cases hdd : d < 32
            · have ed : decide ((32 : Int) ≤ d) = false := by simp; omega
              have heq2 := Lib.hid (show mayV v d = mayVs v.ps (d + 1) by rw [heq.out, hbw, decide_eq_true Hn.out, decide_eq_true h8, decide_eq_true (show (d : Int) < 32 by omega)]; rfl)
              go_wp2_with fail
              go_loopw [5] (fun i wr => ∃ (k : Nat), k ≤ v.ps.length ∧ i = .int .i64 k ∧ mayVs (v.ps.drop k) (d + 1) = mayV v d ∧ Below W1.heap.size W1 wr) (fun i _ => v.ps.length - (intOf i).toNat)
              case atStart => exact ⟨0, Nat.zero_le _, rfl, by rw [heq2.out]; rfl, Below.refl _ _⟩
              case round =>
                obtain ⟨k, hk, rfl, hq2, hBw⟩ := hrel
                have HQ := Lib.hid hq2
                have HBw := Lib.hid hBw
                have hbz := hBw.size
                have hbr := (hBw.block _ (by omega)).trans Hb1.out
                have hc3r : wr.cell? ⟨w.heap.size, 3, none⟩ = some (.slice a v.ps.length cap) := by simp [World.cell?, hbr]
                clear hbr
                clear hq2 hBw
                by_cases hlt : k < v.ps.length
                · obtain ⟨b, off, rfl, hbB, hels⟩ := HE.out.resolve_left (by intro e; rw [e] at hlt; simp at hlt)
                  have hBall : Below B w wr := (HB1.out.mono hB).trans (HBw.out.mono (by omega))
                  obtain ⟨sl, e0, e1, e2, e3, hsub⟩ := (hels.below hBall hbB).at hlt
                  obtain ⟨a2, cap2, rfl⟩ := sub_slice hsub
                  have HS := Lib.hid (sub_isV hsub)
                  have hm := Lib.hid (nthV_mem hlt)
                  clear hsub hels hBall
                  obtain ⟨bm, hbm⟩ : ∃ bm, mayV (nthV v.ps k) (d + 1) = bm := ⟨_, rfl⟩
                  go_wp2_with fail
                  have hc := HIH.out (nthV v.ps k) _ (d + 1) B wr (by have := size_part hm.out; omega) HS.out (by omega) (ok_part HOK.out hm.out) (by omega)
                  rw [show ((d + 1 : Nat) : Int) = (d : Int) + 1 by omega, hbm] at hc
                  refine hc.mono ?_
                  clear hc
                  rintro e W3 ⟨rfl, hb3⟩
                  have HB3 := Lib.hid hb3
                  clear hb3
                  have hBl : Hid (Below W1.heap.size W1 W3) := Lib.hid (HBw.out.trans (HB3.out.mono (by omega)))
                  cases bm with
                  | true =>
                    go_wp2_with fail
                    go_roundw
                    case rel => exact ⟨k + 1, by omega, by go_num, by rw [← HQ.out, mayVs_drop hlt, hbm]; rfl, hBl.out⟩
                    case measure => simp [intOf]; omega
                  | false =>
                    go_wp2_with fail
                    go_ret
                    exact ⟨ret_bool (by rw [← HQ.out, mayVs_drop hlt, hbm]; rfl), HB1.out.trans (hBl.out.mono (by omega))⟩
                · have hfin := Lib.hid (show true = mayV v d from by rw [← HQ.out, mayVs_end hlt])
                  go_wp2_with fail
                  go_ret
                  exact ⟨ret_bool hfin.out, HB1.out.trans (HBw.out.mono (by omega))⟩
            · have ed : decide ((32 : Int) ≤ d) = true := by simp; omega
              go_wp2_with fail
              go_ret
              refine ⟨ret_bool ?_, HB1.out⟩
              rw [heq.out, hbw, decide_eq_false (show ¬ (d : Int) < 32 by omega)]
              simp
          · have e8 : decide ((8 : Int) < v.ps.length) = true := by simp; omega
            go_wp2_with fail
            go_ret
            refine ⟨ret_bool ?_, HB1.out⟩
            rw [heq.out, hbw, decide_eq_false h8]
            simp
      · have hn' : (v.n == 0) = false := by simp [hn]
        have Hn := Lib.hid hn
        clear hn
        go_enter Tryz.func38, Tryz.ntmps38
        go_wp2_with fail
        go_ret
        refine ⟨ret_bool ?_, (Below.refl _ _).alloc (Nat.le_refl _) _⟩
        rw [heq.out, decide_eq_false Hn.out]
        rfl
    · have heq := Lib.hid (mayV_other v d h1 h2 h3)
      have hk1 : (v.k == 1) = false := by simp [h1]
      have hk2 : (v.k == 2) = false := by simp [h2]
      clear h1 h2
      go_enter Tryz.func38, Tryz.ntmps38
      go_wp2_with fail
      go_ret
      exact ⟨ret_bool heq.out.symm, (Below.refl _ _).alloc (Nat.le_refl _) _⟩
end Go.Proofs.YtnddcicadmbmkaaGreatDoor
