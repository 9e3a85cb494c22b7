/- What a store's parts are beside one another; a store behind a put of a text, behind a new node. -/
import Derived.Test.YtnddcicadmbmkaaGreatDoorD6
namespace Go.Proofs.YtnddcicadmbmkaaGreatDoor
open Go.RowKit Go.Maps

theorem Sto.c {w : World} {m : Nat} {L : List ByteArray} {Ns : List Nd} {rb nb : Option Nat} {sv nv : Value} {D D' : DataW Unit} {n n' : Nat} (h : Sto w m L Ns rb nb sv nv D D' n n') :
    w.cell? ⟨m + 3, 0, none⟩ = some (.pointer (some ⟨m + 1, 0, none⟩)) ∧ w.cell? ⟨m + 3, 1, none⟩ = some nv ∧ w.cell? ⟨m + 3, 2, none⟩ = some (.map (some (m + 2))) := by
  simp [World.cell?, h.cells]
/-- the texts' row is none of the other blocks -/
theorem Sto.apart {w : World} {m : Nat} {L : List ByteArray} {Ns : List Nd} {rb nb : Option Nat} {sv nv : Value} {D D' : DataW Unit} {n n' : Nat} (h : Sto w m L Ns rb nb sv nv D D' n n') :
    ∀ k, rb = some k → m + 4 ≤ k ∧ k < w.heap.size ∧ nb ≠ some k := by
  intro k hk
  rcases h.syms.row.2 with ⟨h1, _⟩ | ⟨g, cap, cur, h1, h2, h3, _⟩
  · rw [← h.syms.blk, h1] at hk; simp [Value.ownBlock] at hk
  · have hgk : g = k := by rw [← h.syms.blk, h1] at hk; simpa [Value.ownBlock] using hk
    subst hgk
    have hl := h.syms.row.lt g (by rw [h.syms.blk]; exact hk)
    refine ⟨?_, hl.2, ?_⟩
    · by_cases e2 : g = m + 2
      · obtain ⟨es, clock, h4, _⟩ := h.map
        rw [e2, h4] at h3; cases h3
      · by_cases e3 : g = m + 3
        · rw [e3, h.cells] at h3; simp at h3
        · omega
    · intro e
      rcases h.row.2 with ⟨h1', _⟩ | ⟨g', cap', cur', h1', h2', h3', _⟩
      · rw [← h.blk, h1'] at e; simp [Value.ownBlock] at e
      · have : g' = g := by rw [← h.blk, h1'] at e; simpa [Value.ownBlock] using e
        subst this
        rw [h3] at h3'
        simp at h3'
theorem Sto.syms_put {w w' : World} {m : Nat} {L L' : List ByteArray} {Ns : List Nd} {rb nb rb' : Option Nat} {sv nv sv' : Value} {D D' D1 : DataW Unit} {n n' n1 : Nat} (h : Sto w m L Ns rb nb sv nv D D' n n')
    (hf : Sy.Fr (Sy.Foot m rb) w w') (ht : Sy.Tab w' m L' rb' sv' D1 n1) : Sto w' m L' Ns rb' nb sv' nv D1 D' n1 n' := by
  have hap := h.apart
  have hb : ∀ k, k < w.heap.size → (k = m + 2 ∨ k = m + 3 ∨ nb = some k) → w'.heap[k]? = w.heap[k]? := fun k hk hq => hf.block k hk (by
    rintro (e | e | e)
    · rcases hq with hq | hq | hq
      · omega
      · omega
      · have := h.row.lt k (by rw [h.blk]; exact hq); omega
    · rcases hq with hq | hq | hq
      · omega
      · omega
      · have := h.row.lt k (by rw [h.blk]; exact hq); omega
    · have := hap k e
      rcases hq with hq | hq | hq
      · omega
      · omega
      · exact this.2.2 hq)
  refine ⟨?_, ht, ?_, h.few, h.is, ?_, h.blk, h.len, h.ok⟩
  · rw [hb _ (heap_lt h.cells) (.inr (.inl rfl))]; exact h.cells
  · obtain ⟨es, clock, h1, h2⟩ := h.map
    exact ⟨es, clock, by rw [hb _ (heap_lt h1) (.inl rfl)]; exact h1, h2⟩
  · refine ⟨h.row.1, ?_⟩
    rcases h.row.2 with h2 | ⟨g, cap, cur, h1, h2, h3, r⟩
    · exact .inl h2
    · refine .inr ⟨g, cap, cur, h1, h2, ?_, r⟩
      rw [hb g (heap_lt h3) (.inr (.inr (by rw [← h.blk, h1]; rfl)))]; exact h3
theorem foot_syms {m k : Nat} {rb nb : Option Nat} (h : Sy.Foot m rb k) : SFoot m rb nb k := by
  rcases h with h | h | h
  · exact .inl h
  · exact .inr (.inl h)
  · exact .inr (.inr (.inr (.inr (.inl h))))
theorem flat_snoc (Ns : List Nd) (q : Nd) : (Ns ++ [q]).flatMap (fun n => (ndC n).toList) = Ns.flatMap (fun n => (ndC n).toList) ++ (ndC q).toList := by simp
end Go.Proofs.YtnddcicadmbmkaaGreatDoor
