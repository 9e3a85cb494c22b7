/- The numbers that put answers fit, and its lists stay within their bound: plain. -/
import Derived.Test.YtnddcicadmbmkaaGreatDoorD3
namespace Go.Proofs.YtnddcicadmbmkaaGreatDoor
open Go.RowKit Go.Maps

def Lens (st : St) : Prop := st.1.length ≤ 16384 ∧ st.2.length ≤ 16384
theorem idx_lt' {s : ByteArray} : ∀ {L : List ByteArray}, Sy.hasB L s = true → Sy.idx L s < L.length
  | [], h => by simp [Sy.hasB] at h
  | x :: r, h => by
    unfold Sy.hasB at h
    unfold Sy.idx
    by_cases e : x = s
    · rw [if_pos e]; simp
    · rw [if_neg e] at h ⊢
      have := idx_lt' h
      simp; omega
theorem pN_bd {L : List ByteArray} (s : ByteArray) (h : L.length ≤ 16384) : Sy.pN L s ≤ 16384 := by
  unfold Sy.pN
  by_cases hb : Sy.hasB L s = true
  · rw [if_pos hb]; have := idx_lt' hb; omega
  · rw [if_neg hb]
    by_cases hf : 16384 ≤ L.length
    · rw [if_pos hf]; omega
    · rw [if_neg hf]; omega
theorem pL_bd {L : List ByteArray} (s : ByteArray) (h : L.length ≤ 16384) : (Sy.pL L s).length ≤ 16384 := by
  unfold Sy.pL
  by_cases hb : Sy.hasB L s = true
  · rw [if_pos hb]; exact h
  · rw [if_neg hb]
    by_cases hf : 16384 ≤ L.length
    · rw [if_pos hf]; exact h
    · rw [if_neg hf]; simp; omega
theorem nput_bd (n : Nd) {st : St} (h : Lens st) : (0 ≤ (nput n st).1 ∧ (nput n st).1 ≤ 16384) ∧ Lens (nput n st).2.2 := by
  unfold nput
  obtain ⟨h1, h2⟩ := h
  by_cases hb : nhas st.2 n = true
  · rw [if_pos hb]; have := nidx_lt (nhas_iff.1 hb); exact ⟨by simp; omega, h1, h2⟩
  · rw [if_neg hb]
    by_cases hf : 16384 ≤ st.2.length
    · rw [if_pos hf]; exact ⟨by simp, h1, h2⟩
    · rw [if_neg hf]; exact ⟨by simp; omega, h1, by simp; omega⟩
mutual
theorem putV_wf : ∀ (v : V) {st : St}, v.Ok → Lens st → (Lit.int .i64 (putV v st).1).wf = true ∧ Lens (putV v st).2.2
  | .mk k n s ps, st, hok, hl => by
    unfold V.Ok at hok
    unfold putV
    by_cases h1 : k = 1
    · rw [if_pos h1]; exact ⟨hok.2.1, hl⟩
    · rw [if_neg h1]
      by_cases h2 : k = 2
      · rw [if_pos h2]
        have := pN_bd s hl.1
        exact ⟨WalkArith.wf_i64 (by omega), pL_bd s hl.1, hl.2⟩
      · rw [if_neg h2]
        have hr := putVs_wf ps hok.2.2.2.2 hl
        by_cases he : (putVs ps st).2.1 ≠ 0
        · rw [if_pos he]; exact ⟨WalkArith.wf_i64 (by simp), hr.2⟩
        · rw [if_neg he]
          have := nput_bd (s, (putVs ps st).1) hr.2
          exact ⟨WalkArith.wf_i64 (by omega), this.2⟩
theorem putVs_wf : ∀ (l : List V) {st : St}, OkL l → Lens st → (∀ p ∈ (putVs l st).1, wfP p) ∧ Lens (putVs l st).2.2
  | [], st, _, hl => by unfold putVs; exact ⟨by simp, hl⟩
  | x :: r, st, hok, hl => by
    unfold OkL at hok
    have hx := putV_wf x hok.1 hl
    have hr := putVs_wf r hok.2 hx.2
    unfold putVs
    by_cases he : (putV x st).2.1 ≠ 0
    · rw [if_pos he]; exact ⟨by simp, hx.2⟩
    · rw [if_neg he]
      refine ⟨?_, hr.2⟩
      intro p hp
      rcases List.mem_cons.1 hp with rfl | hp
      · refine ⟨?_, hx.1⟩
        have h0 := hok.1
        cases x
        unfold V.Ok at h0
        exact h0.1
      · exact hr.1 p hp
end
theorem Sto.lens {w : World} {m : Nat} {L : List ByteArray} {Ns : List Nd} {rb nb : Option Nat} {sv nv : Value} {D D' : DataW Unit} {n n' : Nat} (h : Sto w m L Ns rb nb sv nv D D' n n') : Lens (L, Ns) := ⟨h.syms.len, h.len⟩
end Go.Proofs.YtnddcicadmbmkaaGreatDoor
