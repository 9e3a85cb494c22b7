/- What is a word: the two texts' walks. -/
import Derived.Test.YtnddcicadmbmkaaGreatDoorA2
namespace Go.Proofs.YtnddcicadmbmkaaGreatDoor
open Go.RowKit

theorem ret_bool {a b : Bool} (h : a = b) : Ending.returned (.bool a) = .returned (.bool b) := by rw [h]

set_option maxHeartbeats 1000000 in
theorem letter_any (n : Nat) (w : World) (h : n < 256) : Calls Tryz.prog 71 #[.int .u8 n] w fun e w' => e = .returned (.bool (letterN n)) ∧ w = w' := by
  have hl : Hid (letterN n = decide (n = 95 ∨ (97 ≤ n ∧ n ≤ 122) ∨ (65 ≤ n ∧ n ≤ 90))) := rfl
  go_enter Tryz.func71, Tryz.ntmps71
  go_wp2
  all_goals (go_ret; refine ⟨ret_bool ?_, rfl⟩; rw [hl.out, Bool.eq_iff_iff]; simp; try omega)

set_option maxHeartbeats 1000000 in
theorem digit_any (n : Nat) (w : World) (h : n < 256) : Calls Tryz.prog 72 #[.int .u8 n] w fun e w' => e = .returned (.bool (digitN n)) ∧ w = w' := by
  have hl : Hid (digitN n = decide (48 ≤ n ∧ n ≤ 57)) := rfl
  go_enter Tryz.func72, Tryz.ntmps72
  go_wp2
  all_goals (go_ret; refine ⟨ret_bool ?_, rfl⟩; rw [hl.out, Bool.eq_iff_iff]; simp; try omega)

theorem letter_at {n : Nat} {b : Bool} (hb : letterN n = b) (w : World) (h : n < 256) : Calls Tryz.prog 71 #[.int .u8 n] w fun e w' => e = .returned (.bool b) ∧ w = w' := hb ▸ letter_any n w h
theorem digit_at {n : Nat} {b : Bool} (hb : digitN n = b) (w : World) (h : n < 256) : Calls Tryz.prog 72 #[.int .u8 n] w fun e w' => e = .returned (.bool b) ∧ w = w' := hb ▸ digit_any n w h

set_option maxRecDepth 100000 in
set_option maxHeartbeats 1000000 in
theorem rword_any (s : ByteArray) (w : World) (hs : s.size ≤ 140737488351232) : Calls Tryz.prog 57 #[.string s] w fun e w' => e = .returned (.bool (wordB s)) ∧ w = w' := by
  go_enter Tryz.func57, Tryz.ntmps57
  go_wp2_with fail
  go_loop [3] (fun i => ∃ k : Nat, k ≤ s.size ∧ i = .int .i64 k ∧ ∀ j, j < k → goodAt s j = true) (fun i => s.size - (intOf i).toNat)
  case atStart => exact ⟨0, Nat.zero_le _, rfl, fun j hj => by omega⟩
  case round =>
    obtain ⟨k, hk, rfl, hg⟩ := hrel
    have HG := Lib.hid hg
    clear hg
    by_cases hlt : k < s.size
    · have hbl : s[k].toNat < 256 := UInt8.toNat_lt _
      by_cases hl : letterN s[k].toNat = true
      · have hgk : Hid (goodAt s k = true) := by unfold goodAt; rw [← byteN_eq hlt, hl]; rfl
        have HL := Lib.hid hl
        clear hl
        go_wp2_with fail
        refine (letter_at HL.out w hbl).mono ?_
        rintro e w' ⟨rfl, rfl⟩
        go_wp2_with fail
        go_round
        case rel => exact ⟨k + 1, by omega, by go_num, fun j hj => if e : j = k then e ▸ hgk.out else HG.out j (by omega)⟩
        case measure => simp [intOf]; omega
      · have hl' : letterN s[k].toNat = false := by simpa using hl
        have HL := Lib.hid hl'
        clear hl hl'
        by_cases h0 : k = 0
        · have hgk := Lib.hid (show goodAt s k = false from by unfold goodAt; rw [← byteN_eq hlt, HL.out, Bool.false_or, decide_eq_false (by simp [h0]), Bool.false_and])
          have hkb : ((k : Int) == 0) = true := by simp [h0]
          clear h0
          go_wp2_with fail
          refine (letter_at HL.out w hbl).mono ?_
          rintro e w' ⟨rfl, rfl⟩
          go_wp2_with fail
          go_ret
          exact ⟨ret_bool (wordB_bad hlt hgk.out).symm, rfl⟩
        · have hkb : ((k : Int) == 0) = false := by simp [h0]
          clear h0
          by_cases hd : digitN s[k].toNat = true
          · have hgk : Hid (goodAt s k = true) := by
              unfold goodAt
              rw [← byteN_eq hlt, HL.out, hd]
              simp at hkb ⊢
              exact hkb
            have HD := Lib.hid hd
            clear hd
            go_wp2_with fail
            refine (letter_at HL.out w hbl).mono ?_
            rintro e w' ⟨rfl, rfl⟩
            go_wp2_with fail
            refine (digit_at HD.out w hbl).mono ?_
            rintro e w' ⟨rfl, rfl⟩
            go_wp2_with fail
            go_round
            case rel => exact ⟨k + 1, by omega, by go_num, fun j hj => if e : j = k then e ▸ hgk.out else HG.out j (by omega)⟩
            case measure => simp [intOf]; omega
          · have hd' : digitN s[k].toNat = false := by simpa using hd
            have hgk := Lib.hid (show goodAt s k = false from by unfold goodAt; rw [← byteN_eq hlt, HL.out, hd', Bool.and_false, Bool.or_false])
            have HD := Lib.hid hd'
            clear hd hd'
            go_wp2_with fail
            refine (letter_at HL.out w hbl).mono ?_
            rintro e w' ⟨rfl, rfl⟩
            go_wp2_with fail
            refine (digit_at HD.out w hbl).mono ?_
            rintro e w' ⟨rfl, rfl⟩
            go_wp2_with fail
            go_ret
            exact ⟨ret_bool (wordB_bad hlt hgk.out).symm, rfl⟩
    · have hfin := Lib.hid (wordB_good (s := s) (fun i hi => HG.out i (by omega)))
      by_cases h1 : 1 ≤ s.size
      all_goals
        go_wp2_with fail
        go_ret
        refine ⟨ret_bool ?_, rfl⟩
        rw [hfin.out, Bool.eq_iff_iff]
        simp
        try omega

end Go.Proofs.YtnddcicadmbmkaaGreatDoor
