/- The walk of SymPlays. -/
import Derived.Test.YtpeacdghphnmbaaR2
namespace Go.Proofs.Ytpeacdghphnmbaa
open Go.RowKit Go.Maps

set_option maxRecDepth 100000 in
set_option maxHeartbeats 2000000 in
theorem plays_walk (l : List ByteArray) (v : Value) (x : Int) (w : World) (hv : Strs w v l) (_ : (Lit.int .i64 x).wf = true) :
    Calls Try.prog 7 #[v, .int .i64 x] w fun e w' => e = .returned (.bool true) ∧ Below w.heap.size w w' := by
  obtain ⟨a, cap, rfl, hlc, hreach, hwide, hcells⟩ := hv
  have HW := Lib.hid hwide
  clear hwide
  go_enter Try.func7, Try.ntmps7
  go_wp2_with fail
  refine (new_any w).mono ?_
  rintro e w1 ⟨rfl, hT1, hB1, hs1⟩
  go_wp2_with fail
  refine (alive_any _).mono ?_
  rintro e w2 ⟨rfl, hB2⟩
  have H2 := Lib.hid (two_start (B := w.heap.size + 3) hT1 hs1 (by omega) (by simpa [hs1] using hB2))
  have HB : Hid (Below w.heap.size w w2) := (hB1.alloc (by omega) _).trans (hB2.mono (by simp; omega))
  clear hT1 hB2 hB1
  rcases hcells with rfl | ⟨b, off, rfl, hb, hcell⟩
  · go_wp2_with fail
    go_loopw [36] (fun i wr => ∃ k : Nat, k ≤ 0 ∧ i = .int .i64 k ∧ TwoE wr w.heap.size (w.heap.size + 2) w.heap.size (plays [] k) ∧ Below w.heap.size w wr ∧ w.heap.size ≤ wr.heap.size) (fun i _ => 0 - (intOf i).toNat)
    case atStart => exact ⟨0, Nat.zero_le _, rfl, ⟨_, _, _, _, _, _, H2.out⟩, HB.out, HB.out.size⟩
    case round =>
      obtain ⟨k, hk, rfl, ⟨rbT, svT, D, n, rbR, svR, hTwo⟩, hBw, hsz⟩ := hrel
      obtain ⟨P, hP⟩ : ∃ P, P = plays [] k := ⟨_, rfl⟩
      rw [← hP] at hTwo
      have HP := Lib.hid hP
      have HTwo := Lib.hid hTwo
      have HBw := Lib.hid hBw
      clear hP hTwo hBw
      obtain rfl : k = 0 := by omega
      · have hT := Lib.hid HTwo.out.1
        have hR := Lib.hid HTwo.out.2.1
        go_wp2_with fail
        refine (text_any _ _ _ _ _ _ _ _ hT.out).mono ?_
        rintro e w' ⟨rfl, rfl⟩
        go_wp2_with fail
        refine (rtext_any _ _ _ _ _ _ hR.out).mono ?_
        rintro e w' ⟨rfl, rfl⟩
        go_wp2_with fail
        refine (callsIn_wide.1 (stands_in _ _ _ _ _ _ _ _ _ _ hT.out hR.out)).mono ?_
        rintro e w5 ⟨rfl, h5⟩
        have H5 := Lib.hid h5
        clear h5
        go_wp2_with fail
        go_ret
        exact ⟨rfl, HBw.out.trans (H5.out.mono hsz)⟩
  · by_cases h0 : l.length ≤ 2000
    · go_wp2_with fail
      go_loopw [36] (fun i wr => ∃ k : Nat, k ≤ l.length ∧ i = .int .i64 k ∧ TwoE wr w.heap.size (w.heap.size + 2) w.heap.size (plays l k) ∧ Below w.heap.size w wr ∧ w.heap.size ≤ wr.heap.size) (fun i _ => l.length - (intOf i).toNat)
      case atStart => exact ⟨0, Nat.zero_le _, rfl, ⟨_, _, _, _, _, _, H2.out⟩, HB.out, HB.out.size⟩
      case round =>
        obtain ⟨k, hk, rfl, ⟨rbT, svT, D, n, rbR, svR, hTwo⟩, hBw, hsz⟩ := hrel
        obtain ⟨P, hP⟩ : ∃ P, P = plays l k := ⟨_, rfl⟩
        rw [← hP] at hTwo
        have HP := Lib.hid hP
        have HTwo := Lib.hid hTwo
        have HBw := Lib.hid hBw
        clear hP hTwo hBw
        by_cases hlt : k < l.length
        · have hcx : wr.cell? ⟨b, off + k, none⟩ = some (.string (nth l k)) := (HBw.out.cell (p := ⟨b, off + k, none⟩) hb).trans (hcell k (by omega))
          go_wp2_with fail
          refine (get_any _ _ _ _ _ _ _ _ HTwo.out.1 (nth_wide HW.out k)).mono ?_
          rintro e w' ⟨rfl, rfl⟩
          go_wp2_with fail
          refine (rget_any _ _ _ _ _ _ HTwo.out.2.1).mono ?_
          rintro e w' ⟨rfl, rfl⟩
          go_wp2_with fail
          refine (put_any _ _ _ _ _ _ _ _ HTwo.out.1 (nth_wide HW.out k)).mono ?_
          rintro e w3 ⟨rfl, h3⟩
          have H3 := Lib.hid (two_step HTwo.out h3 hsz)
          clear h3
          go_wp2_with fail
          refine (rput_any _ _ _ _ _ _ H3.out.1).mono ?_
          rintro e w4 ⟨rfl, h4⟩
          have H4 := Lib.hid (H3.out.2.2.2 _ h4)
          clear h4
          go_wp2_with fail
          go_roundw
          case rel => exact ⟨k + 1, by omega, by go_num, by rw [plays_succ (by omega), ← HP.out]; exact H4.out.1, (HBw.out.trans H3.out.2.1).trans H4.out.2.1, H4.out.2.2⟩
          case measure => simp [intOf]; omega
        · have hT := Lib.hid HTwo.out.1
          have hR := Lib.hid HTwo.out.2.1
          go_wp2_with fail
          refine (text_any _ _ _ _ _ _ _ _ hT.out).mono ?_
          rintro e w' ⟨rfl, rfl⟩
          go_wp2_with fail
          refine (rtext_any _ _ _ _ _ _ hR.out).mono ?_
          rintro e w' ⟨rfl, rfl⟩
          go_wp2_with fail
          refine (callsIn_wide.1 (stands_in _ _ _ _ _ _ _ _ _ _ hT.out hR.out)).mono ?_
          rintro e w5 ⟨rfl, h5⟩
          have H5 := Lib.hid h5
          clear h5
          go_wp2_with fail
          go_ret
          exact ⟨rfl, HBw.out.trans (H5.out.mono hsz)⟩
    · have h0' : 2000 ≤ l.length := by omega
      go_wp2_with fail
      go_loopw [36] (fun i wr => ∃ k : Nat, k ≤ 2000 ∧ i = .int .i64 k ∧ TwoE wr w.heap.size (w.heap.size + 2) w.heap.size (plays l k) ∧ Below w.heap.size w wr ∧ w.heap.size ≤ wr.heap.size) (fun i _ => 2000 - (intOf i).toNat)
      case atStart => exact ⟨0, Nat.zero_le _, rfl, ⟨_, _, _, _, _, _, H2.out⟩, HB.out, HB.out.size⟩
      case round =>
        obtain ⟨k, hk, rfl, ⟨rbT, svT, D, n, rbR, svR, hTwo⟩, hBw, hsz⟩ := hrel
        obtain ⟨P, hP⟩ : ∃ P, P = plays l k := ⟨_, rfl⟩
        rw [← hP] at hTwo
        have HP := Lib.hid hP
        have HTwo := Lib.hid hTwo
        have HBw := Lib.hid hBw
        clear hP hTwo hBw
        by_cases hlt : k < 2000
        · have hcx : wr.cell? ⟨b, off + k, none⟩ = some (.string (nth l k)) := (HBw.out.cell (p := ⟨b, off + k, none⟩) hb).trans (hcell k (by omega))
          go_wp2_with fail
          refine (get_any _ _ _ _ _ _ _ _ HTwo.out.1 (nth_wide HW.out k)).mono ?_
          rintro e w' ⟨rfl, rfl⟩
          go_wp2_with fail
          refine (rget_any _ _ _ _ _ _ HTwo.out.2.1).mono ?_
          rintro e w' ⟨rfl, rfl⟩
          go_wp2_with fail
          refine (put_any _ _ _ _ _ _ _ _ HTwo.out.1 (nth_wide HW.out k)).mono ?_
          rintro e w3 ⟨rfl, h3⟩
          have H3 := Lib.hid (two_step HTwo.out h3 hsz)
          clear h3
          go_wp2_with fail
          refine (rput_any _ _ _ _ _ _ H3.out.1).mono ?_
          rintro e w4 ⟨rfl, h4⟩
          have H4 := Lib.hid (H3.out.2.2.2 _ h4)
          clear h4
          go_wp2_with fail
          go_roundw
          case rel => exact ⟨k + 1, by omega, by go_num, by rw [plays_succ (by omega), ← HP.out]; exact H4.out.1, (HBw.out.trans H3.out.2.1).trans H4.out.2.1, H4.out.2.2⟩
          case measure => simp [intOf]; omega
        · have hT := Lib.hid HTwo.out.1
          have hR := Lib.hid HTwo.out.2.1
          go_wp2_with fail
          refine (text_any _ _ _ _ _ _ _ _ hT.out).mono ?_
          rintro e w' ⟨rfl, rfl⟩
          go_wp2_with fail
          refine (rtext_any _ _ _ _ _ _ hR.out).mono ?_
          rintro e w' ⟨rfl, rfl⟩
          go_wp2_with fail
          refine (callsIn_wide.1 (stands_in _ _ _ _ _ _ _ _ _ _ hT.out hR.out)).mono ?_
          rintro e w5 ⟨rfl, h5⟩
          have H5 := Lib.hid h5
          clear h5
          go_wp2_with fail
          go_ret
          exact ⟨rfl, HBw.out.trans (H5.out.mono hsz)⟩

end Go.Proofs.Ytpeacdghphnmbaa
