/- The document's text of a number below 0. -/
import Derived.Test.YtnddcicadmbmkaaGreatDoorH1
namespace Go.Proofs.YtnddcicadmbmkaaGreatDoor
open Go.RowKit

set_option maxRecDepth 100000 in
set_option maxHeartbeats 2000000 in
theorem num_neg (u : Nat) (z0 : Int) (hz00 : z0 = -(u : Int)) (h0 : 0 < u) (hu : u ≤ 9223372036854775808) (w : World) : Calls Tryz.prog 52 #[.int .i64 z0] w fun e w' => e = .returned (.string ⟨#[45] ++ (Lib.decDigits u).toArray⟩) ∧ Below w.heap.size w w' := by
  have hz : (z0 == 0) = false := by simp; omega
  have hzl : z0 < 0 := by omega
  have hzb : -9223372036854775808 ≤ z0 := by omega
  have HZ0 := Lib.hid hz00
  clear hz00
  obtain ⟨i0, hi, hz0, hz1, hz2⟩ := info_parts Tryz.info5
  go_enter Tryz.func52, Tryz.ntmps52
  go_wp2_with fail
  go_loopw [3, 4] (fun bv mv wr => ∃ (r : Nat) (z : Int), mv = .int .i64 z ∧ z = -(r : Int) ∧ NumR w.heap.size u w r bv wr) (fun _ mv _ => (-intOf mv).toNat)
  case atStart => exact ⟨u, z0, rfl, HZ0.out, [], by simp, Buf.nil _ _, fun _ => rfl, Nat.le_refl _, Below.refl _ _, by simp⟩
  case round =>
    obtain ⟨r, z, rfl, hzr, l, hd, hb, hn, hr, hB, hp⟩ := hrel
    have HD := Lib.hid hd
    have HBF := Lib.hid hb
    have HN := Lib.hid hn
    have HB := Lib.hid hB
    have HP := Lib.hid hp
    have hsz := hB.size
    clear hd hb hn hB hp
    by_cases hr0 : r = 0
    · subst hr0
      obtain rfl : z = 0 := by simpa using hzr
      clear hzr
      have hdl : digs u = l := by have := HD.out; simpa [digs] using this
      have hne : l ≠ [] := fun e => digs_ne h0 (hdl.trans e)
      have hconv := HBF.out.text hne
      have HDL := Lib.hid hdl
      obtain ⟨g, cap, rfl, _⟩ := HBF.out.cells hne
      have hll : l.length ≤ 1000 := by
        have h1 := digits_le 19 u (by have h4 : (10 : Nat) ^ (19 + 1) = 100000000000000000000 := by decide
                                      omega)
        rw [← hdl]
        unfold digs
        rw [if_neg (by omega), Lib.decDigits_length]
        omega
      clear hdl hne
      go_wp2_with fail
      go_ret
      refine ⟨?_, HB.out⟩
      rw [← HDL.out]
      unfold digs
      rw [if_neg (by omega)]
      rfl
    · have HZR := Lib.hid hzr
      have hrz : (z != 0) = true := by simp; omega
      have hzm : z ≤ -1 := by omega
      have hzn : -9223372036854775808 ≤ z := by omega
      obtain ⟨d, hd⟩ : ∃ d, z.tmod 10 = d := ⟨_, rfl⟩
      obtain ⟨y, hy⟩ : ∃ y, z.tdiv 10 = y := ⟨_, rfl⟩
      have hdr : d = -((r % 10 : Nat) : Int) := by rw [← hd, hzr, Int.neg_tmod]; rfl
      have hyr : y = -((r / 10 : Nat) : Int) := by rw [← hy, hzr, Int.neg_tdiv]; rfl
      have hd9 : -9 ≤ d := by omega
      have hy1 : y ≤ 0 := by omega
      have hy2 : -9223372036854775808 ≤ y := by omega
      have hll := num_len HP.out (by omega) (by omega)
      have HDR := Lib.hid hdr
      have HYR := Lib.hid hyr
      clear hzr hdr hyr
      have HST := Lib.hid (digs_step (show 0 < r by omega))
      have HPN := Lib.hid (show (r / 10) * 10 ^ (l.length + 1) ≤ u from by
        have h1 := HP.out
        have h2 : (r / 10) * 10 ≤ r := by omega
        have h3 : (r / 10) * 10 * 10 ^ l.length ≤ r * 10 ^ l.length := Nat.mul_le_mul_right _ h2
        rw [Nat.pow_succ, Nat.mul_comm (10 ^ l.length) 10, ← Nat.mul_assoc]
        omega)
      by_cases hq : r % 10 = 0
      · obtain rfl : d = 0 := by rw [HDR.out, hq]; rfl
        have HQZ := Lib.hid hq
        have HOWN := Lib.hid (show (wr.alloc (.cells #[.int .u8 48] 5)).ownsRow w.heap.size 5 1 (.slice (some ⟨wr.heap.size, 0, none⟩) 1 1) 1 (Lib.byteCells [UInt8.ofNat (48 + r % 10)]) from Buf.new hsz [UInt8.ofNat (48 + r % 10)] _ (by
          show [Value.int .u8 _] = [Value.int .u8 _]
          rw [dig_nat (by omega)]
          congr 2
          have := HQZ.out
          omega) (by simp))
        have HBA := Lib.hid (show Below w.heap.size w (wr.alloc (.cells #[.int .u8 48] 5)) from HB.out.alloc hsz _)
        by_cases hl : l = []
        · subst hl
          obtain rfl := HN.out rfl
          go_wp2_with (at_builtin; refine wpList_append_own_none rfl (.tmp 22) (.tmp 23) 61 rfl w.heap.size 5 i0 1 Tryz.underlying61 hi (.slice (some ⟨wr.heap.size, 0, none⟩) 1 1) 1 _ (by rfl) HOWN.out (by rfl) ?_)
          go_roundw
          case rel => exact ⟨r / 10, y, rfl, HYR.out, [UInt8.ofNat (48 + r % 10)], by rw [HD.out, HST.out]; simp, HOWN.out, (fun h => by cases h), by omega, HBA.out, HPN.out⟩
          case measure => have := HYR.out; have := HZR.out; simp [intOf]; omega
        · obtain ⟨g, cap, rfl, hc⟩ := HBF.out.cells hl
          have HNEWS := Lib.hid (show ∀ j x, (Lib.byteCells l)[j]? = some x → (wr.alloc (.cells #[.int .u8 48] 5)).cell? ((⟨g, 0, none⟩ : Addr).add j) = some x from fun j x hx => (World.cell?_alloc_some wr _ _ (by rw [hc j x hx]; rfl)).trans (hc j x hx))
          clear hc
          go_wp2_with (at_builtin; refine wpList_append_own_at _ rfl (.tmp 22) (.tmp 23) 61 rfl w.heap.size 5 i0 (.int .u8 0) 1 1 Tryz.underlying61 hi hz0 hz1 hz2 rfl (by decide) (.slice (some ⟨wr.heap.size, 0, none⟩) 1 1) 1 _ (by rfl) HOWN.out ⟨g, 0, none⟩ l.length cap (Lib.byteCells l) (by rfl) (by simp [Lib.byteCells]) HNEWS.out (by intro y hy; unfold Lib.byteCells at hy; obtain ⟨b, _, rfl⟩ := List.mem_map.1 hy; rfl) (by unfold maxLen; omega) (by omega) HBA.out.size ?_; intro v4 w4 hown4 hg4 hnil4 hat4; have HOWN4 := Lib.hid hown4; have HG4 := Lib.hid hg4; clear hown4 hg4 hnil4 hat4)
          go_roundw
          case rel =>
            refine ⟨r / 10, y, rfl, HYR.out, UInt8.ofNat (48 + r % 10) :: l, by rw [HD.out, HST.out]; simp, ?_, (fun h => by cases h), by omega, below_grown HBA.out HBA.out.size HG4.out (fun k hk => ?_), by simpa using HPN.out⟩
            · have := HOWN4.out
              unfold Buf
              rw [List.length_cons, Nat.add_comm]
              exact this
            · have hk' : wr.heap.size = k := by simpa [Value.ownBlock] using hk
              omega
          case measure => have := HYR.out; have := HZR.out; simp [intOf]; omega
      · have hdn : d < 0 := by have := HDR.out; omega
        have HOWN := Lib.hid (show (wr.alloc (.cells #[.int .u8 (48 + -d)] 5)).ownsRow w.heap.size 5 1 (.slice (some ⟨wr.heap.size, 0, none⟩) 1 1) 1 (Lib.byteCells [UInt8.ofNat (48 + r % 10)]) from Buf.new hsz [UInt8.ofNat (48 + r % 10)] _ (by
          show [Value.int .u8 _] = [Value.int .u8 _]
          rw [dig_nat (by omega)]
          congr 2
          have := HDR.out
          omega) (by simp))
        have HBA := Lib.hid (show Below w.heap.size w (wr.alloc (.cells #[.int .u8 (48 + -d)] 5)) from HB.out.alloc hsz _)
        by_cases hl : l = []
        · subst hl
          obtain rfl := HN.out rfl
          go_wp2_with (at_builtin; refine wpList_append_own_none rfl (.tmp 22) (.tmp 23) 61 rfl w.heap.size 5 i0 1 Tryz.underlying61 hi (.slice (some ⟨wr.heap.size, 0, none⟩) 1 1) 1 _ (by rfl) HOWN.out (by rfl) ?_)
          go_roundw
          case rel => exact ⟨r / 10, y, rfl, HYR.out, [UInt8.ofNat (48 + r % 10)], by rw [HD.out, HST.out]; simp, HOWN.out, (fun h => by cases h), by omega, HBA.out, HPN.out⟩
          case measure => have := HYR.out; have := HZR.out; simp [intOf]; omega
        · obtain ⟨g, cap, rfl, hc⟩ := HBF.out.cells hl
          have HNEWS := Lib.hid (show ∀ j x, (Lib.byteCells l)[j]? = some x → (wr.alloc (.cells #[.int .u8 (48 + -d)] 5)).cell? ((⟨g, 0, none⟩ : Addr).add j) = some x from fun j x hx => (World.cell?_alloc_some wr _ _ (by rw [hc j x hx]; rfl)).trans (hc j x hx))
          clear hc
          go_wp2_with (at_builtin; refine wpList_append_own_at _ rfl (.tmp 22) (.tmp 23) 61 rfl w.heap.size 5 i0 (.int .u8 0) 1 1 Tryz.underlying61 hi hz0 hz1 hz2 rfl (by decide) (.slice (some ⟨wr.heap.size, 0, none⟩) 1 1) 1 _ (by rfl) HOWN.out ⟨g, 0, none⟩ l.length cap (Lib.byteCells l) (by rfl) (by simp [Lib.byteCells]) HNEWS.out (by intro y hy; unfold Lib.byteCells at hy; obtain ⟨b, _, rfl⟩ := List.mem_map.1 hy; rfl) (by unfold maxLen; omega) (by omega) HBA.out.size ?_; intro v4 w4 hown4 hg4 hnil4 hat4; have HOWN4 := Lib.hid hown4; have HG4 := Lib.hid hg4; clear hown4 hg4 hnil4 hat4)
          go_roundw
          case rel =>
            refine ⟨r / 10, y, rfl, HYR.out, UInt8.ofNat (48 + r % 10) :: l, by rw [HD.out, HST.out]; simp, ?_, (fun h => by cases h), by omega, below_grown HBA.out HBA.out.size HG4.out (fun k hk => ?_), by simpa using HPN.out⟩
            · have := HOWN4.out
              unfold Buf
              rw [List.length_cons, Nat.add_comm]
              exact this
            · have hk' : wr.heap.size = k := by simpa [Value.ownBlock] using hk
              omega
          case measure => have := HYR.out; have := HZR.out; simp [intOf]; omega
end Go.Proofs.YtnddcicadmbmkaaGreatDoor
