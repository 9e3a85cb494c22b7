/- What is a word: the program's own walk (printed by genword.py). -/
import Derived.Test.YtnddcicadmbmkaaGreatDoorA3
import Derived.Laws.RangeAny
namespace Go.Proofs.YtnddcicadmbmkaaGreatDoor
open Go.RowKit

theorem good_pos {s : ByteArray} {k n : Nat} (h : k < s.size) (hn : n = s[k].toNat) (hl : n = 95 ∨ (97 ≤ n ∧ n ≤ 122) ∨ (65 ≤ n ∧ n ≤ 90) ∨ (k ≠ 0 ∧ 48 ≤ n ∧ n ≤ 57)) : goodAt s k = true := by
  unfold goodAt letterN digitN; rw [← byteN_eq h, ← hn]; simp; omega
theorem bad_pos {s : ByteArray} {k n : Nat} (h : k < s.size) (hn : n = s[k].toNat ∨ (128 ≤ n ∧ 128 ≤ s[k].toNat)) (hl : ¬ (n = 95 ∨ (97 ≤ n ∧ n ≤ 122) ∨ (65 ≤ n ∧ n ≤ 90) ∨ (k ≠ 0 ∧ 48 ≤ n ∧ n ≤ 57))) : goodAt s k = false := by
  unfold goodAt letterN digitN; rw [← byteN_eq h]; simp; omega
theorem next_word (s : ByteArray) (w : World) {pos : Nat} (hp : pos < s.size) : ∃ n wd : Nat, 1 ≤ wd ∧ (∀ ty, (Instr.next (.pointer (some ⟨w.heap.size, 0, none⟩)) true ty).run Tryz.prog (w.iter s pos) = .ok (.tuple #[.bool true, .int .i64 pos, .int .i32 n]) (w.iter s (pos + wd))) ∧ ((n < 128 ∧ wd = 1 ∧ n = s[pos].toNat) ∨ (128 ≤ n ∧ 128 ≤ s[pos].toNat)) := by
  by_cases ha : s[pos].toNat < 128
  · exact ⟨_, 1, by omega, fun ty => run_next_ascii w s pos ty hp ha, .inl ⟨ha, rfl, rfl⟩⟩
  · have hd := decode_high s pos hp (by omega)
    exact ⟨_, _, hd.2, fun ty => run_next_any w s pos ty hp, .inr ⟨hd.1, by omega⟩⟩

set_option maxRecDepth 100000 in
set_option maxHeartbeats 4000000 in
theorem word_any (s : ByteArray) (w : World) (hs : s.size ≤ 140737488351232) : Calls Tryz.prog 56 #[.string s] w fun e w' => e = .returned (.bool (wordB s)) ∧ Below w.heap.size w w' := by
  go_enter Tryz.func56, Tryz.ntmps56
  go_wp2_with fail
  go_loopw [3, 4, 5] (fun i c l w' => ∃ (pos : Nat), pos ≤ s.size ∧ w' = w.iter s pos ∧ ∀ j, j < pos → goodAt s j = true) (fun _ _ _ w' => s.size - w'.iterPos w.heap.size)
  case atStart => exact ⟨0, Nat.zero_le _, rfl, fun j hj => by omega⟩
  case round =>
    obtain ⟨pos, hps, rfl, hg⟩ := hrel
    have HG := Lib.hid hg
    clear hg
    by_cases hp : pos < s.size
    · obtain ⟨n, wd, hwd, hnx, hk⟩ := next_word s w hp
      have HK := Lib.hid hk
      clear hk
      have hcs : n ≤ 47 ∨ (48 ≤ n ∧ n ≤ 57) ∨ (58 ≤ n ∧ n ≤ 64) ∨ (65 ≤ n ∧ n ≤ 90) ∨ (91 ≤ n ∧ n ≤ 94) ∨ (95 ≤ n ∧ n ≤ 95) ∨ (96 ≤ n ∧ n ≤ 96) ∨ (97 ≤ n ∧ n ≤ 122) ∨ 123 ≤ n := by omega
      rcases hcs with hR | hR | hR | hR | hR | hR | hR | hR | hR
      · by_cases h0 : pos = 0
        · have hkb : ((pos : Int) == 0) = true := by simp [h0]
          have e0 : ((n : Int) == 95) = false := by simp <;> omega
          have e1 : decide ((97 : Int) ≤ n) = false := by simp; omega
          have e2 : decide ((n : Int) ≤ 122) = true := by simp; omega
          have e3 : decide ((65 : Int) ≤ n) = false := by simp; omega
          have e4 : decide ((n : Int) ≤ 90) = true := by simp; omega
          have e5 : decide ((n : Int) < 48) = true := by simp; omega
          have e6 : decide ((57 : Int) < n) = false := by simp; omega
          have hgk := Lib.hid (bad_pos hp (n := n) (by have := HK.out; omega) (by omega))
          clear hR h0
          go_wp2_with fail
          go_ret
          exact ⟨ret_bool (wordB_bad hp hgk.out).symm, (Below.refl _ _).alloc (Nat.le_refl _) _⟩
        · have hkb : ((pos : Int) == 0) = false := by simp [h0]
          have e0 : ((n : Int) == 95) = false := by simp <;> omega
          have e1 : decide ((97 : Int) ≤ n) = false := by simp; omega
          have e2 : decide ((n : Int) ≤ 122) = true := by simp; omega
          have e3 : decide ((65 : Int) ≤ n) = false := by simp; omega
          have e4 : decide ((n : Int) ≤ 90) = true := by simp; omega
          have e5 : decide ((n : Int) < 48) = true := by simp; omega
          have e6 : decide ((57 : Int) < n) = false := by simp; omega
          have hgk := Lib.hid (bad_pos hp (n := n) (by have := HK.out; omega) (by omega))
          clear hR h0
          go_wp2_with fail
          go_ret
          exact ⟨ret_bool (wordB_bad hp hgk.out).symm, (Below.refl _ _).alloc (Nat.le_refl _) _⟩
      · by_cases h0 : pos = 0
        · have hkb : ((pos : Int) == 0) = true := by simp [h0]
          have e0 : ((n : Int) == 95) = false := by simp <;> omega
          have e1 : decide ((97 : Int) ≤ n) = false := by simp; omega
          have e2 : decide ((n : Int) ≤ 122) = true := by simp; omega
          have e3 : decide ((65 : Int) ≤ n) = false := by simp; omega
          have e4 : decide ((n : Int) ≤ 90) = true := by simp; omega
          have e5 : decide ((n : Int) < 48) = false := by simp; omega
          have e6 : decide ((57 : Int) < n) = false := by simp; omega
          have hgk := Lib.hid (bad_pos hp (n := n) (by have := HK.out; omega) (by omega))
          clear hR h0
          go_wp2_with fail
          go_ret
          exact ⟨ret_bool (wordB_bad hp hgk.out).symm, (Below.refl _ _).alloc (Nat.le_refl _) _⟩
        · have hkb : ((pos : Int) == 0) = false := by simp [h0]
          have e0 : ((n : Int) == 95) = false := by simp <;> omega
          have e1 : decide ((97 : Int) ≤ n) = false := by simp; omega
          have e2 : decide ((n : Int) ≤ 122) = true := by simp; omega
          have e3 : decide ((65 : Int) ≤ n) = false := by simp; omega
          have e4 : decide ((n : Int) ≤ 90) = true := by simp; omega
          have e5 : decide ((n : Int) < 48) = false := by simp; omega
          have e6 : decide ((57 : Int) < n) = false := by simp; omega
          have hgk := Lib.hid (good_pos hp (n := n) (by have := HK.out; omega) (by omega))
          have hw1 : wd = 1 := by have := HK.out; omega
          clear hR h0
          go_wp2_with fail
          go_roundw
          case rel => exact ⟨pos + 1, by omega, rfl, fun j hj => if e : j = pos then e ▸ hgk.out else HG.out j (by omega)⟩
          case measure => simp; omega
      · by_cases h0 : pos = 0
        · have hkb : ((pos : Int) == 0) = true := by simp [h0]
          have e0 : ((n : Int) == 95) = false := by simp <;> omega
          have e1 : decide ((97 : Int) ≤ n) = false := by simp; omega
          have e2 : decide ((n : Int) ≤ 122) = true := by simp; omega
          have e3 : decide ((65 : Int) ≤ n) = false := by simp; omega
          have e4 : decide ((n : Int) ≤ 90) = true := by simp; omega
          have e5 : decide ((n : Int) < 48) = false := by simp; omega
          have e6 : decide ((57 : Int) < n) = true := by simp; omega
          have hgk := Lib.hid (bad_pos hp (n := n) (by have := HK.out; omega) (by omega))
          clear hR h0
          go_wp2_with fail
          go_ret
          exact ⟨ret_bool (wordB_bad hp hgk.out).symm, (Below.refl _ _).alloc (Nat.le_refl _) _⟩
        · have hkb : ((pos : Int) == 0) = false := by simp [h0]
          have e0 : ((n : Int) == 95) = false := by simp <;> omega
          have e1 : decide ((97 : Int) ≤ n) = false := by simp; omega
          have e2 : decide ((n : Int) ≤ 122) = true := by simp; omega
          have e3 : decide ((65 : Int) ≤ n) = false := by simp; omega
          have e4 : decide ((n : Int) ≤ 90) = true := by simp; omega
          have e5 : decide ((n : Int) < 48) = false := by simp; omega
          have e6 : decide ((57 : Int) < n) = true := by simp; omega
          have hgk := Lib.hid (bad_pos hp (n := n) (by have := HK.out; omega) (by omega))
          clear hR h0
          go_wp2_with fail
          go_ret
          exact ⟨ret_bool (wordB_bad hp hgk.out).symm, (Below.refl _ _).alloc (Nat.le_refl _) _⟩
      · have e0 : ((n : Int) == 95) = false := by simp <;> omega
        have e1 : decide ((97 : Int) ≤ n) = false := by simp; omega
        have e2 : decide ((n : Int) ≤ 122) = true := by simp; omega
        have e3 : decide ((65 : Int) ≤ n) = true := by simp; omega
        have e4 : decide ((n : Int) ≤ 90) = true := by simp; omega
        have e5 : decide ((n : Int) < 48) = false := by simp; omega
        have e6 : decide ((57 : Int) < n) = true := by simp; omega
        have hgk := Lib.hid (good_pos hp (n := n) (by have := HK.out; omega) (by omega))
        have hw1 : wd = 1 := by have := HK.out; omega
        clear hR
        go_wp2_with fail
        go_roundw
        case rel => exact ⟨pos + 1, by omega, rfl, fun j hj => if e : j = pos then e ▸ hgk.out else HG.out j (by omega)⟩
        case measure => simp; omega
      · by_cases h0 : pos = 0
        · have hkb : ((pos : Int) == 0) = true := by simp [h0]
          have e0 : ((n : Int) == 95) = false := by simp <;> omega
          have e1 : decide ((97 : Int) ≤ n) = false := by simp; omega
          have e2 : decide ((n : Int) ≤ 122) = true := by simp; omega
          have e3 : decide ((65 : Int) ≤ n) = true := by simp; omega
          have e4 : decide ((n : Int) ≤ 90) = false := by simp; omega
          have e5 : decide ((n : Int) < 48) = false := by simp; omega
          have e6 : decide ((57 : Int) < n) = true := by simp; omega
          have hgk := Lib.hid (bad_pos hp (n := n) (by have := HK.out; omega) (by omega))
          clear hR h0
          go_wp2_with fail
          go_ret
          exact ⟨ret_bool (wordB_bad hp hgk.out).symm, (Below.refl _ _).alloc (Nat.le_refl _) _⟩
        · have hkb : ((pos : Int) == 0) = false := by simp [h0]
          have e0 : ((n : Int) == 95) = false := by simp <;> omega
          have e1 : decide ((97 : Int) ≤ n) = false := by simp; omega
          have e2 : decide ((n : Int) ≤ 122) = true := by simp; omega
          have e3 : decide ((65 : Int) ≤ n) = true := by simp; omega
          have e4 : decide ((n : Int) ≤ 90) = false := by simp; omega
          have e5 : decide ((n : Int) < 48) = false := by simp; omega
          have e6 : decide ((57 : Int) < n) = true := by simp; omega
          have hgk := Lib.hid (bad_pos hp (n := n) (by have := HK.out; omega) (by omega))
          clear hR h0
          go_wp2_with fail
          go_ret
          exact ⟨ret_bool (wordB_bad hp hgk.out).symm, (Below.refl _ _).alloc (Nat.le_refl _) _⟩
      · have e0 : ((n : Int) == 95) = true := by simp <;> omega
        have e1 : decide ((97 : Int) ≤ n) = false := by simp; omega
        have e2 : decide ((n : Int) ≤ 122) = true := by simp; omega
        have e3 : decide ((65 : Int) ≤ n) = true := by simp; omega
        have e4 : decide ((n : Int) ≤ 90) = false := by simp; omega
        have e5 : decide ((n : Int) < 48) = false := by simp; omega
        have e6 : decide ((57 : Int) < n) = true := by simp; omega
        have hgk := Lib.hid (good_pos hp (n := n) (by have := HK.out; omega) (by omega))
        have hw1 : wd = 1 := by have := HK.out; omega
        clear hR
        go_wp2_with fail
        go_roundw
        case rel => exact ⟨pos + 1, by omega, rfl, fun j hj => if e : j = pos then e ▸ hgk.out else HG.out j (by omega)⟩
        case measure => simp; omega
      · by_cases h0 : pos = 0
        · have hkb : ((pos : Int) == 0) = true := by simp [h0]
          have e0 : ((n : Int) == 95) = false := by simp <;> omega
          have e1 : decide ((97 : Int) ≤ n) = false := by simp; omega
          have e2 : decide ((n : Int) ≤ 122) = true := by simp; omega
          have e3 : decide ((65 : Int) ≤ n) = true := by simp; omega
          have e4 : decide ((n : Int) ≤ 90) = false := by simp; omega
          have e5 : decide ((n : Int) < 48) = false := by simp; omega
          have e6 : decide ((57 : Int) < n) = true := by simp; omega
          have hgk := Lib.hid (bad_pos hp (n := n) (by have := HK.out; omega) (by omega))
          clear hR h0
          go_wp2_with fail
          go_ret
          exact ⟨ret_bool (wordB_bad hp hgk.out).symm, (Below.refl _ _).alloc (Nat.le_refl _) _⟩
        · have hkb : ((pos : Int) == 0) = false := by simp [h0]
          have e0 : ((n : Int) == 95) = false := by simp <;> omega
          have e1 : decide ((97 : Int) ≤ n) = false := by simp; omega
          have e2 : decide ((n : Int) ≤ 122) = true := by simp; omega
          have e3 : decide ((65 : Int) ≤ n) = true := by simp; omega
          have e4 : decide ((n : Int) ≤ 90) = false := by simp; omega
          have e5 : decide ((n : Int) < 48) = false := by simp; omega
          have e6 : decide ((57 : Int) < n) = true := by simp; omega
          have hgk := Lib.hid (bad_pos hp (n := n) (by have := HK.out; omega) (by omega))
          clear hR h0
          go_wp2_with fail
          go_ret
          exact ⟨ret_bool (wordB_bad hp hgk.out).symm, (Below.refl _ _).alloc (Nat.le_refl _) _⟩
      · have e0 : ((n : Int) == 95) = false := by simp <;> omega
        have e1 : decide ((97 : Int) ≤ n) = true := by simp; omega
        have e2 : decide ((n : Int) ≤ 122) = true := by simp; omega
        have e3 : decide ((65 : Int) ≤ n) = true := by simp; omega
        have e4 : decide ((n : Int) ≤ 90) = false := by simp; omega
        have e5 : decide ((n : Int) < 48) = false := by simp; omega
        have e6 : decide ((57 : Int) < n) = true := by simp; omega
        have hgk := Lib.hid (good_pos hp (n := n) (by have := HK.out; omega) (by omega))
        have hw1 : wd = 1 := by have := HK.out; omega
        clear hR
        go_wp2_with fail
        go_roundw
        case rel => exact ⟨pos + 1, by omega, rfl, fun j hj => if e : j = pos then e ▸ hgk.out else HG.out j (by omega)⟩
        case measure => simp; omega
      · by_cases h0 : pos = 0
        · have hkb : ((pos : Int) == 0) = true := by simp [h0]
          have e0 : ((n : Int) == 95) = false := by simp <;> omega
          have e1 : decide ((97 : Int) ≤ n) = true := by simp; omega
          have e2 : decide ((n : Int) ≤ 122) = false := by simp; omega
          have e3 : decide ((65 : Int) ≤ n) = true := by simp; omega
          have e4 : decide ((n : Int) ≤ 90) = false := by simp; omega
          have e5 : decide ((n : Int) < 48) = false := by simp; omega
          have e6 : decide ((57 : Int) < n) = true := by simp; omega
          have hgk := Lib.hid (bad_pos hp (n := n) (by have := HK.out; omega) (by omega))
          clear hR h0
          go_wp2_with fail
          go_ret
          exact ⟨ret_bool (wordB_bad hp hgk.out).symm, (Below.refl _ _).alloc (Nat.le_refl _) _⟩
        · have hkb : ((pos : Int) == 0) = false := by simp [h0]
          have e0 : ((n : Int) == 95) = false := by simp <;> omega
          have e1 : decide ((97 : Int) ≤ n) = true := by simp; omega
          have e2 : decide ((n : Int) ≤ 122) = false := by simp; omega
          have e3 : decide ((65 : Int) ≤ n) = true := by simp; omega
          have e4 : decide ((n : Int) ≤ 90) = false := by simp; omega
          have e5 : decide ((n : Int) < 48) = false := by simp; omega
          have e6 : decide ((57 : Int) < n) = true := by simp; omega
          have hgk := Lib.hid (bad_pos hp (n := n) (by have := HK.out; omega) (by omega))
          clear hR h0
          go_wp2_with fail
          go_ret
          exact ⟨ret_bool (wordB_bad hp hgk.out).symm, (Below.refl _ _).alloc (Nat.le_refl _) _⟩
    · have hfin := Lib.hid (wordB_good (s := s) (fun i hi => HG.out i (by omega)))
      have hnx : ∀ ty, (Instr.next (.pointer (some ⟨w.heap.size, 0, none⟩)) true ty).run Tryz.prog (w.iter s pos) = _ := fun ty => run_next_end w s pos ty hp
      by_cases h1 : 1 ≤ s.size
      · have hne : s.toList.isEmpty = false := by
          rw [List.isEmpty_eq_false_iff]
          intro e
          rw [ByteArray.toList_eq] at e
          have : s.size = 0 := by rw [← ByteArray.size_data, ← Array.length_toList, e]; rfl
          omega
        have hne2 : ¬ s.toList = [] := by simpa using hne
        go_wp2_with fail
        go_ret
        refine ⟨ret_bool ?_, (Below.refl _ _).alloc (Nat.le_refl _) _⟩
        rw [hfin.out, Bool.eq_iff_iff]
        simp
        try omega
      · have hne2 : s.toList = [] := by
          rw [ByteArray.toList_eq, ← List.length_eq_zero_iff, Array.length_toList, ByteArray.size_data]
          omega
        go_wp2_with fail
        go_ret
        refine ⟨ret_bool ?_, (Below.refl _ _).alloc (Nat.le_refl _) _⟩
        rw [hfin.out, Bool.eq_iff_iff]
        simp
        try omega
end Go.Proofs.YtnddcicadmbmkaaGreatDoor
