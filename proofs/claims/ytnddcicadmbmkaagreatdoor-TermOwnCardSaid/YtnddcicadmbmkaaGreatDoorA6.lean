/- Right; order of numbers and texts. -/
import Derived.Test.YtnddcicadmbmkaaGreatDoorA5
import Derived.Test.YtnddcicadmbmkaaGreatDoorW1
import Derived.Test.YtnddcicadmbmkaaGreatDoorShelf
import Derived.Laws.Cover1
import Derived.Sort.Walk0
namespace Go.Proofs.YtnddcicadmbmkaaGreatDoor
open Go.RowKit

theorem compare_lt : ∀ (a b : List UInt8), Lib.compareBytes a b = if a < b then -1 else if b < a then 1 else 0
  | [], [] => by simp [Lib.compareBytes]
  | [], _ :: _ => by simp [Lib.compareBytes]
  | _ :: _, [] => by simp [Lib.compareBytes]
  | x :: a, y :: b => by
    unfold Lib.compareBytes
    rw [compare_lt a b]
    simp only [List.cons_lt_cons_iff]
    by_cases h1 : x < y
    · simp [h1]
    · by_cases h2 : y < x
      · have hne : x ≠ y := by rintro rfl; exact h1 h2
        simp [h1, h2, hne]
      · have he : x = y := UInt8.le_antisymm (UInt8.not_lt.1 h2) (UInt8.not_lt.1 h1)
        subst he
        simp [h1]
theorem cmpS_eq (a b : ByteArray) : cmpS a b = Lib.compareBytes a.data.toList b.data.toList := (compare_lt _ _).symm

theorem lex_tri : ∀ (a b : List UInt8), a < b ∨ a = b ∨ b < a
  | [], [] => .inr (.inl rfl)
  | [], _ :: _ => .inl (by simp)
  | _ :: _, [] => .inr (.inr (by simp))
  | x :: a, y :: b => by
    simp only [List.cons_lt_cons_iff]
    by_cases h1 : x < y
    · exact .inl (.inl h1)
    · by_cases h2 : y < x
      · exact .inr (.inr (.inl h2))
      · have he : x = y := UInt8.le_antisymm (UInt8.not_lt.1 h2) (UInt8.not_lt.1 h1)
        subst he
        rcases lex_tri a b with h | h | h
        · exact .inl (.inr ⟨rfl, h⟩)
        · exact .inr (.inl (by rw [h]))
        · exact .inr (.inr (.inr ⟨rfl, h⟩))
theorem right_eq (v : V) : rightV v = (decide (0 ≤ leftV v 1024) && mayV v 0) := rfl
theorem ret_int {a b : Int} (h : a = b) : Ending.returned (.int .i64 a) = .returned (.int .i64 b) := by rw [h]

set_option maxRecDepth 100000 in
set_option maxHeartbeats 2000000 in
theorem right_any (v : V) (x : Value) (B : Nat) (w : World) (hx : IsV B w v x) (hB : B ≤ w.heap.size) (hok : v.Ok) :
    Calls Tryz.prog 15 #[x] w fun e w' => e = .returned (.bool (rightV v)) ∧ Below w.heap.size w w' := by
  have HX := Lib.hid hx
  obtain ⟨a, cap, rfl, hcap, _⟩ := hx.open
  have hlen := ok_len hok
  have HOK := Lib.hid hok
  obtain ⟨q, hq⟩ : ∃ q, leftV v 1024 = q := ⟨_, rfl⟩
  obtain ⟨bm, hbm⟩ : ∃ bm, mayV v 0 = bm := ⟨_, rfl⟩
  have heq : Hid (rightV v = (decide (0 ≤ q) && bm)) := Lib.hid (by rw [← hq, ← hbm]; rfl)
  have hqb := left_bdV v (n := 1024) (by omega) (by omega)
  rw [hq] at hqb
  clear hok hx
  go_enter Tryz.func15, Tryz.ntmps15
  go_wp2_with fail
  obtain ⟨W0, hW0⟩ : ∃ W0, W0 = w.alloc (.cells #[.int .i64 v.k, .int .i64 v.n, .string v.s, .slice a v.ps.length cap] 24) := ⟨_, rfl⟩
  have hb0 : W0.heap[w.heap.size]? = some (.cells #[.int .i64 v.k, .int .i64 v.n, .string v.s, .slice a v.ps.length cap] 24 (0, 0)) := by rw [hW0]; exact heap_alloc_new _ _
  have hz0 : W0.heap.size = w.heap.size + 1 := by rw [hW0]; simp
  have hB0 : Below w.heap.size w W0 := by rw [hW0]; exact (Below.refl _ _).alloc (Nat.le_refl _) _
  rw [← hW0]
  have HB0 := Lib.hid hB0
  have Hb0 := Lib.hid hb0
  clear hW0 hB0 hb0
  have hc := left_any (v.sz + 1) v _ 1024 B W0 (Nat.lt_succ_self _) (HX.out.below (HB0.out.mono hB)) (by omega) HOK.out (by omega) (by omega)
  rw [hq] at hc
  refine hc.mono ?_
  clear hc
  rintro e W1 ⟨rfl, hb1⟩
  have hz1 := hb1.size
  obtain ⟨c0, c1, c2, c3⟩ := block4 ((hb1.block w.heap.size (by omega)).trans Hb0.out)
  have hB1 := Lib.hid (HB0.out.trans (hb1.mono (by omega)))
  clear hb1
  by_cases h0 : 0 ≤ q
  · have e0 : decide (0 ≤ q) = true := by simp [h0]
    have heq2 := Lib.hid (show rightV v = bm by rw [heq.out, e0]; rfl)
    go_wp2_with fail
    clear c0 c1 c2 c3
    have hc := may_any (v.sz + 1) v _ 0 B W1 (Nat.lt_succ_self _) (HX.out.below (hB1.out.mono hB)) (by omega) HOK.out (by omega)
    rw [show ((0 : Nat) : Int) = 0 by rfl, hbm] at hc
    refine hc.mono ?_
    clear hc
    rintro e W2 ⟨rfl, hb2⟩
    have HB2 := Lib.hid hb2
    clear hb2
    go_wp2_with fail
    go_ret
    exact ⟨ret_bool heq2.out.symm, hB1.out.trans (HB2.out.mono (by omega))⟩
  · have e0 : decide (0 ≤ q) = false := by simp [h0]
    have heq2 := Lib.hid (show rightV v = false by rw [heq.out, e0]; rfl)
    go_wp2_with fail
    go_ret
    exact ⟨ret_bool heq2.out.symm, hB1.out⟩

set_option maxRecDepth 100000 in
set_option maxHeartbeats 2000000 in
theorem rright_any (v : V) (x : Value) (B : Nat) (w : World) (hx : IsV B w v x) (hB : B ≤ w.heap.size) (hok : v.Ok) :
    Calls Tryz.prog 16 #[x] w fun e w' => e = .returned (.bool (rightV v)) ∧ Below w.heap.size w w' := by
  have HX := Lib.hid hx
  obtain ⟨a, cap, rfl, hcap, _⟩ := hx.open
  have hlen := ok_len hok
  have HOK := Lib.hid hok
  obtain ⟨q, hq⟩ : ∃ q, leftV v 1024 = q := ⟨_, rfl⟩
  obtain ⟨bm, hbm⟩ : ∃ bm, mayV v 0 = bm := ⟨_, rfl⟩
  have heq : Hid (rightV v = (decide (0 ≤ q) && bm)) := Lib.hid (by rw [← hq, ← hbm]; rfl)
  have hqb := left_bdV v (n := 1024) (by omega) (by omega)
  rw [hq] at hqb
  clear hok hx
  go_enter Tryz.func16, Tryz.ntmps16
  go_wp2_with fail
  obtain ⟨W0, hW0⟩ : ∃ W0, W0 = w.alloc (.cells #[.int .i64 v.k, .int .i64 v.n, .string v.s, .slice a v.ps.length cap] 24) := ⟨_, rfl⟩
  have hb0 : W0.heap[w.heap.size]? = some (.cells #[.int .i64 v.k, .int .i64 v.n, .string v.s, .slice a v.ps.length cap] 24 (0, 0)) := by rw [hW0]; exact heap_alloc_new _ _
  have hz0 : W0.heap.size = w.heap.size + 1 := by rw [hW0]; simp
  have hB0 : Below w.heap.size w W0 := by rw [hW0]; exact (Below.refl _ _).alloc (Nat.le_refl _) _
  rw [← hW0]
  have HB0 := Lib.hid hB0
  have Hb0 := Lib.hid hb0
  clear hW0 hB0 hb0
  have hc := rleft_any (v.sz + 1) v _ 1024 B W0 (Nat.lt_succ_self _) (HX.out.below (HB0.out.mono hB)) (by omega) HOK.out (by omega) (by omega)
  rw [hq] at hc
  refine hc.mono ?_
  clear hc
  rintro e W1 ⟨rfl, hb1⟩
  have hz1 := hb1.size
  obtain ⟨c0, c1, c2, c3⟩ := block4 ((hb1.block w.heap.size (by omega)).trans Hb0.out)
  have hB1 := Lib.hid (HB0.out.trans (hb1.mono (by omega)))
  clear hb1
  by_cases h0 : 0 ≤ q
  · have e0 : decide (0 ≤ q) = true := by simp [h0]
    have heq2 := Lib.hid (show rightV v = bm by rw [heq.out, e0]; rfl)
    go_wp2_with fail
    clear c0 c1 c2 c3
    have hc := rmay_any (v.sz + 1) v _ 0 B W1 (Nat.lt_succ_self _) (HX.out.below (hB1.out.mono hB)) (by omega) HOK.out (by omega)
    rw [show ((0 : Nat) : Int) = 0 by rfl, hbm] at hc
    refine hc.mono ?_
    clear hc
    rintro e W2 ⟨rfl, hb2⟩
    have HB2 := Lib.hid hb2
    clear hb2
    go_wp2_with fail
    go_ret
    exact ⟨ret_bool heq2.out.symm, hB1.out.trans (HB2.out.mono (by omega))⟩
  · have e0 : decide (0 ≤ q) = false := by simp [h0]
    have heq2 := Lib.hid (show rightV v = false by rw [heq.out, e0]; rfl)
    go_wp2_with fail
    go_ret
    exact ⟨ret_bool heq2.out.symm, hB1.out⟩

set_option maxRecDepth 100000 in
set_option maxHeartbeats 2000000 in
theorem rorder_any (a b : Int) (w : World) : Calls Tryz.prog 58 #[.int .i64 a, .int .i64 b] w fun e w' => e = .returned (.int .i64 (cmpI a b)) ∧ w = w' := by
  have hl : Hid (cmpI a b = if a < b then -1 else if b < a then 1 else 0) := Lib.hid rfl
  go_enter Tryz.func58, Tryz.ntmps58
  go_wp2
  all_goals
    go_ret
    refine ⟨ret_int ?_, rfl⟩
    rw [hl.out]
    repeat' split
    all_goals omega

set_option maxRecDepth 100000 in
set_option maxHeartbeats 2000000 in
theorem cmp_any (a b : Int) (w : World) : Calls Tryz.prog 54 #[.int .i64 a, .int .i64 b] w fun e w' => e = .returned (.int .i64 (cmpI a b)) ∧ w = w' := by
  have hl : Hid (cmpI a b = if a < b then -1 else if b < a then 1 else 0) := Lib.hid rfl
  go_enter Tryz.func54, Tryz.ntmps54
  go_wp2
  all_goals
    go_ret
    refine ⟨ret_int ?_, rfl⟩
    rw [hl.out]
    repeat' split
    all_goals omega

theorem bytes_lt (a b : ByteArray) : Op.bytesLess a.toList b.toList = decide (a.data.toList < b.data.toList) := by
  rw [bytesLess_eq, ByteArray.toList_eq, ByteArray.toList_eq]

set_option maxRecDepth 100000 in
set_option maxHeartbeats 2000000 in
theorem rtexts_any (a b : ByteArray) (w : World) : Calls Tryz.prog 59 #[.string a, .string b] w fun e w' => e = .returned (.int .i64 (cmpS a b)) ∧ w = w' := by
  have hl : Hid (cmpS a b = if a.data.toList < b.data.toList then -1 else if b.data.toList < a.data.toList then 1 else 0) := Lib.hid rfl
  go_enter Tryz.func59, Tryz.ntmps59
  go_wp2
  all_goals
    go_ret
    refine ⟨ret_int ?_, rfl⟩
    rw [hl.out]
  · have h : Op.bytesLess a.toList b.toList = true := by assumption
    rw [bytes_lt, decide_eq_true_eq] at h
    rw [if_pos h]
  · have h : Op.bytesLess a.toList b.toList = false := by assumption
    have h2 : (!a.toList == b.toList) = true := by assumption
    rw [bytes_lt, decide_eq_false_iff_not] at h
    rw [if_neg h]
    rcases lex_tri a.data.toList b.data.toList with h3 | h3 | h3
    · exact absurd h3 h
    · rw [ByteArray.toList_eq, ByteArray.toList_eq, h3] at h2
      simp at h2
    · rw [if_pos h3]
  · have h : Op.bytesLess a.toList b.toList = false := by assumption
    have h2 : (!a.toList == b.toList) = false := by assumption
    rw [bytes_lt, decide_eq_false_iff_not] at h
    have h3 : a.data.toList = b.data.toList := by
      rw [ByteArray.toList_eq, ByteArray.toList_eq] at h2
      simpa using h2
    rw [if_neg h, if_neg (by rw [← h3]; exact List.lt_irrefl _)]

theorem scmp_any (a b : ByteArray) (w : World) : Calls Tryz.prog 55 #[.string a, .string b] w fun e w' => e = .returned (.int .i64 (cmpS a b)) ∧ w = w' := by
  rw [cmpS_eq]
  exact (Tryz.strings_Compare a b w).mono fun e w' h => ⟨h.1, h.2.symm⟩
end Go.Proofs.YtnddcicadmbmkaaGreatDoor
