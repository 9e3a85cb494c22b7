/- Text. -/
import Derived.Test.YtnddcicadmbmkaaGreatDoorC2
import Derived.Test.YtnddcicadmbmkaaGreatDoorB1
namespace Go.Proofs.YtnddcicadmbmkaaGreatDoor
open Go.RowKit

mutual
theorem left_sz : ∀ (v : V) {n : Int}, 0 ≤ leftV v n → leftV v n = n - v.sz
  | .mk _ _ _ ps, n, h => by
    unfold leftV at h ⊢
    unfold V.sz
    rw [left_szL ps h]
    omega
theorem left_szL : ∀ (l : List V) {n : Int}, 0 ≤ leftVs l n → leftVs l n = n - szL l
  | [], n, _ => by unfold leftVs szL; omega
  | x :: r, n, h => by
    unfold leftVs at h ⊢
    unfold szL
    by_cases h0 : 0 ≤ n
    · rw [if_pos h0] at h ⊢
      have h1 := left_szL r h
      have h2 : 0 ≤ leftV x n := by omega
      rw [h1, left_sz x h2]
      omega
    · rw [if_neg h0] at h
      omega
end
theorem right_sz {v : V} (h : rightV v = true) : v.sz ≤ 1024 := by
  unfold rightV at h
  have h0 : 0 ≤ leftV v 1024 := by
    simp only [Bool.and_eq_true, decide_eq_true_eq] at h
    exact h.1
  have := left_sz v h0
  omega
theorem word_len {s : ByteArray} (h : wordB s = true) : s.size ≤ 64 := by
  unfold wordB at h
  simp only [Bool.and_eq_true, decide_eq_true_eq] at h
  exact h.1.2
theorem digits_le : ∀ (k u : Nat), u < 10 ^ (k + 1) → Lib.nDigits u ≤ k + 1
  | 0, u, h => by rw [Lib.nDigits_small (by simpa using h)]; omega
  | k + 1, u, h => by
    by_cases h1 : u < 10
    · rw [Lib.nDigits_small h1]; omega
    · rw [Lib.nDigits_big h1]
      have h2 : u / 10 < 10 ^ (k + 1) := by
        rw [Nat.div_lt_iff_lt_mul (by omega), ← Nat.pow_succ]
        exact h
      have := digits_le k (u / 10) h2
      omega
theorem itoa_len {n : Int} (h : (Lit.int .i64 n).wf = true) : (Lib.itoa n).length ≤ 131080 := by
  have hn : -9223372036854775808 ≤ n ∧ n ≤ 9223372036854775807 := by
    have h' : IntKind.i64.min ≤ n ∧ n ≤ IntKind.i64.max := by simpa [Lit.wf] using h
    exact h'
  unfold Lib.itoa
  split
  · rw [List.length_cons, Lib.decDigits_length]
    have := digits_le 18 n.natAbs (by omega)
    omega
  · rw [Lib.decDigits_length]
    have := digits_le 18 n.toNat (by omega)
    omega
mutual
theorem text_len : ∀ (v : V) (d : Int), mayV v d = true → v.Ok → (textV v).length ≤ 131080 * v.sz
  | .mk k n s ps, d, h, hok => by
    unfold mayV at h
    unfold textV V.sz
    unfold V.Ok at hok
    by_cases h1 : k = 1
    · rw [if_pos h1]
      have := itoa_len hok.2.1
      omega
    · rw [if_neg h1] at h ⊢
      by_cases h2 : k = 2
      · rw [if_pos h2] at h ⊢
        simp only [Bool.and_eq_true, decide_eq_true_eq] at h
        rw [quoted_len]
        have := esc_len s
        omega
      · rw [if_neg h2] at h ⊢
        by_cases h3 : k = 3
        · rw [if_pos h3] at h ⊢
          simp only [Bool.and_eq_true, decide_eq_true_eq] at h
          have hw := word_len h.1.1.1.2
          have hl := texts_len ps (d + 1) 0 h.2 hok.2.2.2.2
          have hs : s.data.toList.length = s.size := by simp
          simp only [List.length_cons, List.length_append, List.length_nil, hs]
          omega
        · rw [if_neg h3] at h; cases h
theorem texts_len : ∀ (l : List V) (d : Int) (i : Nat), mayVs l d = true → OkL l → (textVs l i).length ≤ 131080 * szL l + 2 * l.length
  | [], _, _, _, _ => by unfold textVs; simp
  | x :: r, d, i, h, hok => by
    unfold mayVs at h
    unfold OkL at hok
    simp only [Bool.and_eq_true] at h
    have h1 := text_len x d h.1 hok.1
    have h2 := texts_len r d (i + 1) h.2 hok.2
    unfold textVs szL
    have h3 : (if i = 0 then ([] : List UInt8) else [44, 32]).length ≤ 2 := by split <;> simp
    simp only [List.length_append, List.length_cons]
    omega
end
def textOf (v : V) : List UInt8 := if rightV v then textV v else [63]
theorem right_text {v : V} (h : rightV v = true) (hok : v.Ok) : (textV v).length ≤ 134225920 := by
  have h1 := right_sz h
  unfold rightV at h
  simp only [Bool.and_eq_true] at h
  have h2 := text_len v 0 h.2 hok
  omega

set_option maxRecDepth 100000 in
set_option maxHeartbeats 2000000 in
theorem text_any (v : V) (x : Value) (B : Nat) (w : World) (hx : IsV B w v x) (hB : B ≤ w.heap.size) (hok : v.Ok) (htab : ∀ w', Below B w w' → Tab w') :
    Calls Tryz.prog 11 #[x] w fun e w' => e = .returned (.string ⟨(textOf v).toArray⟩) ∧ Below B w w' := by
  have HX := Lib.hid hx
  obtain ⟨a, cap, rfl, hcap, _⟩ := hx.open
  have hlen := ok_len hok
  have HOK := Lib.hid hok
  have HT := Lib.hid htab
  obtain ⟨r, hr⟩ : ∃ r, rightV v = r := ⟨_, rfl⟩
  have heq : Hid (textOf v = if r then textV v else [63]) := Lib.hid (by rw [← hr]; rfl)
  have HR := Lib.hid hr
  clear hok hx htab hr
  go_enter Tryz.func11, Tryz.ntmps11
  go_wp2_with fail
  obtain ⟨W0, hW0⟩ : ∃ W0, W0 = w.alloc (.cells #[.int .i64 v.k, .int .i64 v.n, .string v.s, .slice a v.ps.length cap] 24) := ⟨_, rfl⟩
  have hb0 : W0.heap[w.heap.size]? = some (.cells #[.int .i64 v.k, .int .i64 v.n, .string v.s, .slice a v.ps.length cap] 24 (0, 0)) := by rw [hW0]; exact heap_alloc_new _ _
  have hz0 : W0.heap.size = w.heap.size + 1 := by rw [hW0]; simp
  have hB0 : Below w.heap.size w W0 := by rw [hW0]; exact (Below.refl _ _).alloc (Nat.le_refl _) _
  rw [← hW0]
  have HB0 := Lib.hid (hB0.mono hB)
  have Hb0 := Lib.hid hb0
  clear hW0 hB0 hb0
  refine (right_at HR.out _ B W0 (HX.out.below HB0.out) (by omega) HOK.out).mono ?_
  rintro e W1 ⟨rfl, hb1⟩
  have hz1 := hb1.size
  have hlw : w.heap.size < W1.heap.size := by omega
  have hbk := (hb1.block w.heap.size (by omega)).trans Hb0.out
  have hbk2 := (Below.heap_alloc W1 (.cells #[.pointer none, .slice none 0 0] 63) _ hlw).trans hbk
  obtain ⟨c0, c1, c2, c3⟩ := block4 hbk2
  have hfresh : Hid (Lib.IsBuilder 63 5 B W1.heap.size (Lib.byteCells []) (W1.alloc (.cells #[.pointer none, .slice none 0 0] 63))) :=
    Lib.hid (.inl ⟨by omega, .slice none 0 0, heap_alloc_new _ _, World.ownsRow_nil _ _ _ _, by simp [Value.ownBlock]⟩)
  have hb2 : Hid (Below B W1 (W1.alloc (.cells #[.pointer none, .slice none 0 0] 63))) := Lib.hid ((Below.refl _ _).alloc (by omega) _)
  clear hbk hbk2
  have HB1 := Lib.hid (HB0.out.trans (hb1.mono (by omega)))
  clear hb1
  cases r with
  | false =>
    have heq2 := Lib.hid (show textOf v = [63] by rw [heq.out]; rfl)
    clear c0 c1 c2 c3
    go_wp2_with fail
    go_ret
    exact ⟨ret_str (by rw [heq2.out]), HB1.out⟩
  | true =>
    have heq2 := Lib.hid (show textOf v = textV v by rw [heq.out]; rfl)
    have hfit := right_text HR.out HOK.out
    go_wp2_with fail
    obtain ⟨W2, hW2⟩ : ∃ W2, W2 = W1.alloc (.cells #[.pointer none, .slice none 0 0] 63) := ⟨_, rfl⟩
    rw [← hW2] at hfresh hb2 c0 c1 c2 c3 ⊢
    clear hW2 c0 c1 c2 c3
    have HB2 := Lib.hid (HB1.out.trans hb2.out)
    have hz2 := HB2.out.size
    refine (write_any (v.sz + 1) v _ B W1.heap.size [] W2 (Nat.lt_succ_self _) (HX.out.below HB2.out) (by omega) HOK.out hfresh.out (fun w' h => HT.out w' (HB2.out.trans h)) (by simp; omega)).mono ?_
    rintro e W3 ⟨rfl, hbd3, hbl3⟩
    have hz3 := hbl3.size
    have HC := Lib.hid (Tryz.Builder_String_any B W1.heap.size (textV v) W3 (by simpa using hbd3) (by omega))
    have HB3 := Lib.hid (HB2.out.trans hbl3)
    clear hbd3 hbl3
    go_wp2_with fail
    refine HC.out.mono ?_
    rintro e W4 ⟨rfl, hb4⟩
    have HB4 := Lib.hid hb4
    clear hb4
    go_wp2_with fail
    go_ret
    exact ⟨ret_str (by rw [heq2.out]), HB3.out.trans HB4.out⟩
end Go.Proofs.YtnddcicadmbmkaaGreatDoor
