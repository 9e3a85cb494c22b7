/- Reading a list of texts, with the bound on each text. -/
import Derived.Test.YtpeacdghphnmbaaT6
namespace Go.Proofs.Ytpeacdghphnmbaa
open Go.ChangeShapes Go.WideShapes Go.ChangeAt Go.RowKit

theorem weightsAll_strs {H : Type} {s : ByteArray} : ∀ {l : List ByteArray}, s ∈ l → s.size ∈ DataW.weightsAll Try.prog 9 (strs (H := H) l)
  | [], h => by simp at h
  | x :: r, h => by
    simp only [strs, List.map_cons, DataW.weightsAll, DataW.weights, List.mem_append]
    rcases List.mem_cons.1 h with rfl | h
    · left; simp
    · right; exact weightsAll_strs h

theorem open_strs2 {H : Type} {enc : TypeId × Value → H} {W : World} {base : Nat} {v : Value} {d : DataW H} {ps : List MemPlace} {ts : List TypeId} {ds : List (DataW H)}
    (hval : Value.okWide Try.prog W .any base 22 v) (h : DataW.Trod enc Try.prog W 0 (fun _ => true) true 22 v d ps)
    (hsz : (DataW.weightsEach Try.prog ts ds).all (· ≤ reachBytes) = true) {j : Nat} (ht : ts[j]? = some 22) (hd : ds[j]? = some d) (hlt : ∀ x ∈ ps, x.block < W.heap.size) : ∃ l, Strs W v l ∧ ∀ s ∈ l, s.size ≤ 140737488351232 := by
  obtain ⟨a0, len, cap, rfl⟩ := okWide_slice Try.underlying22 hval
  obtain ⟨fuel, hf⟩ := h
  rcases open_strings Try.underlying22 Try.underlying9 cells9 hf with ⟨hcs, hx⟩ | ⟨a, len', cap', ss, hcs, _, hl, hm, hz, hx, hcell, hws⟩
  · simp [Value.cells] at hcs
    obtain ⟨rfl, rfl, rfl⟩ := hcs
    exact ⟨[], ⟨none, 0, rfl, Nat.le_refl _, by omega, by simp, .inl rfl⟩, by simp⟩
  · simp [Value.cells] at hcs
    obtain ⟨rfl, rfl, rfl⟩ := hcs
    simp only [Prod.mk.injEq] at hx
    obtain ⟨rfl, rfl⟩ := hx
    simp only [if_true] at hz
    have hreach : cap * 16 ≤ 140737488351232 := by
      have := sized_slice hsz (j := j) (t := 22) (e := 9) ht hd Try.underlying22
      rw [bytes9] at this
      simp only [strs, List.length_map, List.length_take, List.length_drop, reachBytes] at this
      rw [hz] at this
      omega
    have hlen : (ss.take len).length = len := by simp; omega
    have hel : ∀ s ∈ ss.take len, s.size ≤ 140737488351232 := fun s hs => by
      have h1 : s.size ∈ (DataW.slice (strs (ss.take len)) (strs (ss.drop len)) : DataW H).weights Try.prog 22 := by
        simp only [DataW.weights, Try.underlying22, List.mem_cons, List.mem_append]
        exact .inr (.inl (weightsAll_strs hs))
      have h2 := List.all_eq_true.1 hsz _ (DataW.weights_mem_each ht hd _ h1)
      exact of_decide_eq_true h2
    refine ⟨ss.take len, ⟨some a, cap, by rw [hlen], by omega, hreach, fun s hs => hws s (List.mem_of_mem_take hs), ?_⟩, hel⟩
    by_cases h0 : len = 0
    · left; subst h0; rfl
    · right
      obtain ⟨b, off, spot⟩ := a
      have hspot : spot = none := by simpa [Addr.add] using World.cell?_spot (hcell 0 (by omega))
      subst hspot
      refine ⟨b, off, rfl, hlt (.cell b off) (MemPlace.mem_row.2 ⟨0, by omega, by simp⟩), fun j hj => ?_⟩
      rw [hlen] at hj
      rw [← add_plain, hcell j (by omega)]
      simp [nth, hj]
      rfl

end Go.Proofs.Ytpeacdghphnmbaa
