/- put's walk. -/
import Derived.Test.YtnddcicadmbmkaaGreatDoorE1
namespace Go.Proofs.YtnddcicadmbmkaaGreatDoor
open Go.RowKit Go.Maps

set_option maxRecDepth 100000 in
set_option maxHeartbeats 1000000 in
theorem put_flat (v : V) (x : Value) (m : Nat) (P : Nat → Prop) (d : Int) (st : St) (rb nb : Option Nat) (w : World) (hst : Stor w m st rb nb) (hx : IsVP P w v x) (hok : v.Ok) (hmay : mayV v d = true) (h3 : v.k ≠ 3) :
    Calls Tryz.prog 41 #[.pointer (some ⟨m + 3, 0, none⟩), x] w (GPost putV m v st rb nb w) := by
  obtain ⟨a, cap, rfl, hcap, hel⟩ := hx.open
  obtain ⟨sv, nv, D, D', n, n', hsto⟩ := hst
  obtain ⟨s0, s1, s2⟩ := hsto.c
  have hrows := Stor.rows ⟨sv, nv, D, D', n, n', hsto⟩
  have hlen := ok_len hok
  have HX := Lib.hid hx
  have HOK := Lib.hid hok
  have HST := Lib.hid hsto
  obtain ⟨W0, hW0⟩ : ∃ W0, W0 = w.alloc (.cells #[.int .i64 v.k, .int .i64 v.n, .string v.s, .slice a v.ps.length cap] 24) := ⟨_, rfl⟩
  have hb0 : W0.heap[w.heap.size]? = some (.cells #[.int .i64 v.k, .int .i64 v.n, .string v.s, .slice a v.ps.length cap] 24 (0, 0)) := by rw [hW0]; exact heap_alloc_new _ _
  have hB0 : Below w.heap.size w W0 := by rw [hW0]; exact (Below.refl _ _).alloc (Nat.le_refl _) _
  have HW0 := Lib.hid hW0
  have Hb0 := Lib.hid hb0
  have HB0 := Lib.hid hB0
  have hz0 : w.heap.size < W0.heap.size := heap_lt hb0
  clear hW0 hB0 hb0 hel hx hok hsto
  have HS0 := Lib.hid (Sto.syms_put HST.out (Sy.Fr.of_below HB0.out) (HST.out.syms.kept (Sy.Fr.of_below (S := fun _ => False) HB0.out) (fun _ _ h => h)))
  by_cases h1 : v.k = 1
  · have hp := Lib.hid (putV_num v st h1)
    have hk1 : (v.k == 1) = true := by simp [h1]
    have H1 := Lib.hid h1
    clear h1 h3 hmay
    go_enter Tryz.func41, Tryz.ntmps41
    go_wp2_with fail
    go_ret2
    refine ⟨by rw [hp.out]; rfl, rb, nb, ?_, .inl rfl, .inl rfl, Sy.Fr.of_alloc _ _ _⟩
    rw [hp.out]
    exact stor_new ⟨sv, nv, D, D', n, n', HST.out⟩ ((Below.refl _ _).alloc (Nat.le_refl _) _)
  · have hk1 : (v.k == 1) = false := by simp [h1]
    have h2 : v.k = 2 := by
      by_cases h2 : v.k = 2
      · exact h2
      · rw [mayV_other v d h1 h2 h3] at hmay; cases hmay
    have hp := Lib.hid (putV_sym v st h2)
    have hk2 : (v.k == 2) = true := by simp [h2]
    have H1 := Lib.hid h1
    have H2 := Lib.hid h2
    have HK := Lib.hid (show ∀ w', Sy.Fr (Sy.Foot m rb) W0 w' → w'.cell? ⟨m + 3, 0, none⟩ = some (.pointer (some ⟨m + 1, 0, none⟩)) ∧ w'.cell? ⟨w.heap.size, 2, none⟩ = some (.string v.s) from fun w' hf => by
      have hap := HST.out.apart
      refine ⟨?_, ?_⟩
      · rw [cell_of ((hf.block (m + 3) (by omega) (by rintro (h | h | h); omega; omega; have := hap _ h; omega)).trans ((HB0.out.block _ (by omega)).trans HST.out.cells))]; rfl
      · rw [cell_of ((hf.block w.heap.size (by omega) (by rintro (h | h | h); omega; omega; have := hap _ h; omega)).trans Hb0.out)]; rfl)
    have HT0 := Lib.hid (HS0.out.syms.kept (Sy.Fr.of_below (S := fun _ => False) (Below.refl W0.heap.size W0).drew) (fun _ _ h => h))
    clear h1 h2 h3 hmay s0 s1 s2
    go_enter Tryz.func41, Tryz.ntmps41
    go_wp2_with fail
    rw [← HW0.out]
    go_region_held3 (fun w' => w'.cell? ⟨m + 3, 0, none⟩ = some (.pointer (some ⟨m + 1, 0, none⟩)) ∧ w'.cell? ⟨w.heap.size, 2, none⟩ = some (.string v.s)) (first | exact HK.out _ (Sy.Fr.of_below (Below.refl _ _).drew) | exact HK.out _ (by assumption)) (first | (go_at_call 60; refine (Sy.put_any m n st.1 rb sv D v.s _ HT0.out (by unfold maxLen; have := ok_str HOK.out; omega)).mono ?_; rintro e w7 ⟨rfl, hq7⟩; have hf7 : Sy.Fr (Sy.Foot m rb) W0 w7 := (Sy.Fr.of_below (Below.refl W0.heap.size W0).drew).trans (by obtain ⟨_, _, _, _, _, _, h⟩ := hq7; exact h)))
    have HQ7 := Lib.hid hq7
    have HF7 := Lib.hid hf7
    clear hq7 hf7
    go_wp2_with fail
    go_ret2
    obtain ⟨rb', sv', D1, n1, ht, hl, _⟩ := HQ7.out
    refine ⟨by rw [hp.out]; rfl, rb', nb, ?_, ?_, .inl rfl, ?_⟩
    · rw [hp.out]
      exact ⟨sv', nv, D1, D', n1, n', HS0.out.syms_put HF7.out ht⟩
    · rcases hl with h | ⟨g, h, hg⟩
      · exact .inl h
      · exact .inr ⟨g, h, Nat.le_trans (Nat.le_of_lt hz0) hg⟩
    · exact (Sy.Fr.of_below HB0.out).trans (HF7.out.mono (fun k _ h => foot_syms h))

theorem put_any (N : Nat) : ∀ (v : V) (x : Value) (m : Nat) (P : Nat → Prop) (d : Int) (st : St) (rb nb : Option Nat) (w : World), v.sz < N → Stor w m st rb nb → IsVP P w v x → Far P w m rb nb → v.Ok → mayV v d = true →
    Calls Tryz.prog 41 #[.pointer (some ⟨m + 3, 0, none⟩), x] w (GPost putV m v st rb nb w) := by
  induction N with
  | zero => intro v x m P d st rb nb w h; omega
  | succ N ih =>
    intro v x m P d st rb nb w hN hst hx hfar hok hmay
    by_cases h3 : v.k = 3
    · have hms : mayVs v.ps (d + 1) = true := by
        have := mayV_con v d h3
        rw [hmay] at this
        simp only [eq_comm (a := true), Bool.and_eq_true] at this
        exact this.2
      exact put_con v x m P d st rb nb w hst hx hfar hok hmay h3 (fun y hy z st' rb' nb' w' hs hz hf => ih y z m P (d + 1) st' rb' nb' w' (by have := size_part hy; omega) hs hz hf (ok_part hok hy) (mayVs_mem hms y hy))
    · exact put_flat v x m P d st rb nb w hst hx hok hmay h3
end Go.Proofs.YtnddcicadmbmkaaGreatDoor
