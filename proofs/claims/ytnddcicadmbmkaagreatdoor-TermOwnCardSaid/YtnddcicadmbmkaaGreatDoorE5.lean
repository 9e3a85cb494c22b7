/- The probe 'alive' of the statements on values answers true and touches nothing that was there. -/
import Derived.Test.YtnddcicadmbmkaaGreatDoorE4
namespace Go.Proofs.YtnddcicadmbmkaaGreatDoor
open Go.RowKit Go.Maps

set_option maxRecDepth 100000 in
set_option maxHeartbeats 2000000 in
theorem alive_any (w : World) (htab : ∀ w', Below w.heap.size w w' → Tab w') : Calls Tryz.prog 13 #[] w fun e w' => e = .returned (.bool true) ∧ Below w.heap.size w w' := by
  have HTAB := Lib.hid htab
  clear htab
  go_enter Tryz.func13, Tryz.ntmps13
  go_wp2_with fail
  refine (snew_any w).mono ?_
  rintro e w1 ⟨rfl, hst1, hb1, hz1⟩
  have HST1 := Lib.hid hst1
  have HB1 := Lib.hid hb1
  have HZ1 := Lib.hid hz1
  clear hst1 hb1 hz1
  go_wp2_with fail
  refine (leaf_any ⟨#[65]⟩ w1).mono ?_
  rintro e w2 ⟨rfl, hb2⟩
  have HB2 := Lib.hid hb2
  clear hb2
  go_wp2_with fail
  obtain ⟨W3, hW3⟩ : ∃ W3, W3 = (w2.alloc (.cells #[.int .i64 3, .int .i64 0, .string ⟨#[65]⟩, .slice none 0 0, .int .i64 2, .int .i64 0, .string ⟨#[120, 34]⟩, .slice none 0 0] 24)).alloc (.cells #[.int .i64 3, .int .i64 0, .string ⟨#[66]⟩, .slice (some ⟨w2.heap.size, 0, none⟩) 2 2] 24) := ⟨_, rfl⟩
  have hB3 : Below w2.heap.size w2 W3 := by rw [hW3]; exact two_below _ _ _
  have hbp : W3.heap[w2.heap.size]? = some (.cells #[.int .i64 3, .int .i64 0, .string ⟨#[65]⟩, .slice none 0 0, .int .i64 2, .int .i64 0, .string ⟨#[120, 34]⟩, .slice none 0 0] 24 (0, 0)) := by rw [hW3, heap_alloc_old _ _ (by simp)]; exact heap_alloc_new _ _
  have hbb : W3.heap[w2.heap.size + 1]? = some (.cells #[.int .i64 3, .int .i64 0, .string ⟨#[66]⟩, .slice (some ⟨w2.heap.size, 0, none⟩) 2 2] 24 (0, 0)) := by
    have := heap_alloc_new (w2.alloc (.cells #[.int .i64 3, .int .i64 0, .string ⟨#[65]⟩, .slice none 0 0, .int .i64 2, .int .i64 0, .string ⟨#[120, 34]⟩, .slice none 0 0] 24)) (.cells #[.int .i64 3, .int .i64 0, .string ⟨#[66]⟩, .slice (some ⟨w2.heap.size, 0, none⟩) 2 2] 24)
    rw [hW3]; simpa using this
  have hz3 : W3.heap.size = w2.heap.size + 2 := by rw [hW3]; simp
  rw [← hW3]
  clear hW3
  have hst3 : Stor W3 w.heap.size ([], []) none none := stor_new (stor_new ⟨_, _, _, _, _, _, HST1.out⟩ HB2.out) hB3
  have hbv := b_isVP W3 w2.heap.size hbp
  have hs2 := HB2.out.size
  have hs1 := HZ1.out
  have hfar : Far (fun k => k = w2.heap.size) W3 w.heap.size none none := fun k hk => ⟨by omega, by
    rintro (e | e | e | e | e | e)
    · omega
    · omega
    · omega
    · omega
    · cases e
    · cases e⟩
  have HZ3 := Lib.hid hz3
  have HFAR := Lib.hid hfar
  have HBV := Lib.hid hbv
  have HB3 := Lib.hid hB3
  have HBB := Lib.hid hbb
  have HST3 := Lib.hid hst3
  clear hz3 hfar hbv hB3 hbp hbb hst3 hs1
  refine (sput_any bV _ w.heap.size _ ([], []) none none W3 HST3.out HBV.out HFAR.out okB rightB).mono ?_
  rintro e w4 ⟨he, rb4, nb4, hst4, hl1, hl2, hf4⟩
  rw [num1.1, num1.2] at he
  subst he
  have hst4 : Stor w4 w.heap.size st1 rb4 nb4 := hst4
  have HBV4 := Lib.hid (HBV.out.kept HFAR.out hf4)
  have HFAR4 := Lib.hid (HFAR.out.later hf4.size hl1 hl2)
  have HBB4 := Lib.hid (fr_block hf4 HBB.out (by
    have h1 := HZ1.out
    rintro (e | e | e | e | e | e)
    · omega
    · omega
    · omega
    · omega
    · cases e
    · cases e))
  have HF4 := Lib.hid hf4
  have HST4 := Lib.hid hst4
  have HL4 := Lib.hid (And.intro hl1 hl2)
  clear hst4 hl1 hl2 hf4
  go_wp2_with fail
  refine (leaf_any ⟨#[65]⟩ w4).mono ?_
  rintro e w5 ⟨rfl, hb5⟩
  have HB5 := Lib.hid hb5
  clear hb5
  go_wp2_with fail
  refine (sput_any (leafV sA) _ w.heap.size (fun _ => False) st1 rb4 nb4 w5 (stor_new HST4.out HB5.out) (leaf_isVP _ _ _) (fun _ h => h.elim) okA rightA).mono ?_
  rintro e w6 ⟨he, rb6, nb6, hst6, hl1, hl2, hf6⟩
  rw [num2.1, num2.2.1] at he
  subst he
  have hf46 : Sy.Fr (SFoot w.heap.size rb4 nb4) w4 w6 := (Sy.Fr.of_below HB5.out).trans hf6
  have HBV6 := Lib.hid (IsV.of_p (HBV4.out.kept HFAR4.out hf46) (B := w6.heap.size) (fun k hk => by have h1 := (HFAR4.out k hk).1; have h2 := hf46.size; omega))
  have hlow : ∀ {a : Option Nat}, Later W3.heap.size none a → a ≠ some (w2.heap.size + 1) := fun h e => by
    have hz := HZ3.out
    rcases h with h | ⟨k, h, hk⟩
    · rw [h] at e; cases e
    · rw [h] at e; cases e; omega
  have hbb6 := fr_block hf46 HBB4.out (by
    have h1 := HZ1.out
    rintro (e | e | e | e | e | e)
    · omega
    · omega
    · omega
    · omega
    · exact hlow HL4.out.1 e
    · exact hlow HL4.out.2 e)
  have hlt6 : w2.heap.size + 1 < w6.heap.size := heap_lt hbb6
  have hbw : Below w.heap.size w w6 := (((HB1.out.trans (HB2.out.mono (by have := HZ1.out; omega))).trans (HB3.out.mono (by have := HZ1.out; omega))).trans (HST3.out.below HF4.out (Nat.le_refl _))).trans (HST4.out.below hf46 (Nat.le_refl _))
  have hws : w.heap.size ≤ w6.heap.size := hbw.size
  have HT6 := Lib.hid (show ∀ w' w'', Below w6.heap.size w6 w' → Below w6.heap.size w' w'' → Tab w'' from fun w' w'' h1 h2 => HTAB.out _ ((hbw.trans (h1.mono hws)).trans (h2.mono hws)))
  have HBB6 := Lib.hid hbb6
  have HBW := Lib.hid hbw
  have HST6 := Lib.hid hst6
  clear hst6 hl1 hl2 hf6 hf46 hbb6 hbw hlow hst4
  have HK := Lib.hid (show ∀ w', Below w6.heap.size w6 w' → _ from fun w' h => four_held h HBB6.out hlt6)
  have hn3 : (Value.int .i64 ((-1 : Int))) = .int .i64 (-1) := rfl
  go_wp2_with fail
  go_region_held3 (fun w' => Below w6.heap.size w6 w' ∧ w'.cell? ⟨w2.heap.size + 1, 0, none⟩ = some (.int .i64 3) ∧ w'.cell? ⟨w2.heap.size + 1, 1, none⟩ = some (.int .i64 0) ∧ w'.cell? ⟨w2.heap.size + 1, 2, none⟩ = some (.string ⟨#[66]⟩) ∧ w'.cell? ⟨w2.heap.size + 1, 3, none⟩ = some (.slice (some ⟨w2.heap.size, 0, none⟩) 2 2)) (first | exact HK.out _ (Below.refl _ _).drew | exact HK.out _ (by assumption) | assumption) (first | (go_at_call 24; obtain ⟨hSB, hSr⟩ := ‹Below w6.heap.size w6 _ ∧ _›; refine (slen_any w.heap.size _ rb6 nb6 _ (stor_new HST6.out hSB)).mono ?_; rintro e w' ⟨rfl, rfl⟩; rw [num2.2.2]) | (go_at_call 11; obtain ⟨hSB, hSr⟩ := ‹Below w6.heap.size w6 _ ∧ _›; refine (text_any bV (.agg #[.int .i64 3, .int .i64 0, .string ⟨#[66]⟩, .slice (some ⟨w2.heap.size, 0, none⟩) 2 2]) w6.heap.size _ (HBV6.out.below hSB) hSB.size okB (fun w' h => HT6.out _ _ hSB h)).mono ?_; rintro e w8 ⟨rfl, hb8⟩; rw [textB]; have hN8 : Below w6.heap.size w6 w8 := hSB.trans (hb8.mono hSB.size); clear hb8 hSB hSr) | (go_at_call 33; obtain ⟨hSB, hSr⟩ := ‹Below w6.heap.size w6 _ ∧ _›; refine (leaf_any ⟨#[65]⟩ _).mono ?_; rintro e w9 ⟨rfl, hb9⟩; have hN9 : Below w6.heap.size w6 w9 := hSB.trans (hb9.mono hSB.size); clear hb9 hSB hSr) | (go_at_call 14; obtain ⟨hSB, hSr⟩ := ‹Below w6.heap.size w6 _ ∧ _›; refine (order_all (leafV sA) bV (.agg #[.int .i64 3, .int .i64 0, .string ⟨#[65]⟩, .slice none 0 0]) (.agg #[.int .i64 3, .int .i64 0, .string ⟨#[66]⟩, .slice (some ⟨w2.heap.size, 0, none⟩) 2 2]) w6.heap.size _ (leaf_isV _ _ _) (HBV6.out.below hSB) hSB.size okA okB).mono ?_; rintro e w10 ⟨rfl, hb10⟩; rw [orderAB]; have hN10 : Below w6.heap.size w6 w10 := hSB.trans (hb10.mono hSB.size); clear hb10 hSB hSr))
  go_wp2_with fail
  go_ret
  exact ⟨rfl, HBW.out.trans (hN10.mono hws)⟩
end Go.Proofs.YtnddcicadmbmkaaGreatDoor
