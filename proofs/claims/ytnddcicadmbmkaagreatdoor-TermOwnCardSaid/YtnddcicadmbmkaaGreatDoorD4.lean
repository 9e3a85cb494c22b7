/- A store under frames. -/
import Derived.Test.YtnddcicadmbmkaaGreatDoorD3
import Derived.Test.YtnddcicadmbmkaaGreatDoorB4
namespace Go.Proofs.YtnddcicadmbmkaaGreatDoor
open Go.RowKit Go.Maps

def SFoot (m : Nat) (rb nb : Option Nat) (k : Nat) : Prop := k = m ∨ k = m + 1 ∨ k = m + 2 ∨ k = m + 3 ∨ rb = some k ∨ nb = some k
/-- some store with the texts and nodes st, its rows in rb and nb -/
def Stor (w : World) (m : Nat) (st : St) (rb nb : Option Nat) : Prop := ∃ sv nv D D' n n', Sto w m st.1 st.2 rb nb sv nv D D' n n'

theorem Stor.kept {S : Nat → Prop} {w w' : World} {m : Nat} {st : St} {rb nb : Option Nat} (h : Stor w m st rb nb) (hf : Sy.Fr S w w') (hs : ∀ k, SFoot m rb nb k → ¬ S k) : Stor w' m st rb nb := by
  obtain ⟨sv, nv, D, D', n, n', h⟩ := h
  have hb : ∀ k, k < w.heap.size → SFoot m rb nb k → w'.heap[k]? = w.heap[k]? := fun k hk hq => hf.block k hk (hs k hq)
  refine ⟨sv, nv, D, D', n, n', ?_, ?_, ?_, h.few, h.is, ?_, h.blk, h.len, h.ok⟩
  · rw [hb _ (heap_lt h.cells) (.inr (.inr (.inr (.inl rfl))))]; exact h.cells
  · exact h.syms.kept hf (fun k hk => hs k (by rcases hk with h | h | h; exact .inl h; exact .inr (.inl h); exact .inr (.inr (.inr (.inr (.inl h))))))
  · obtain ⟨es, clock, h1, h2⟩ := h.map
    exact ⟨es, clock, by rw [hb _ (heap_lt h1) (.inr (.inr (.inl rfl)))]; exact h1, h2⟩
  · refine ⟨h.row.1, ?_⟩
    rcases h.row.2 with h2 | ⟨g, cap, cur, h1, h2, h3, r⟩
    · exact .inl h2
    · refine .inr ⟨g, cap, cur, h1, h2, ?_, r⟩
      rw [hb g (heap_lt h3) (.inr (.inr (.inr (.inr (.inr (by rw [← h.blk, h1]; rfl))))))]; exact h3

/-- a row is the old one, or a new one -/
def Later (s : Nat) (rb rb' : Option Nat) : Prop := rb' = rb ∨ ∃ k, rb' = some k ∧ s ≤ k
theorem Later.trans {s t : Nat} {a b c : Option Nat} (h : Later s a b) (k : Later t b c) (hst : s ≤ t) : Later s a c := by
  rcases k with rfl | ⟨x, rfl, hx⟩
  · exact h
  · exact .inr ⟨x, rfl, by omega⟩
theorem foot_later {m s k : Nat} {rb nb rb' nb' : Option Nat} (hr : Later s rb rb') (hn : Later s nb nb') (hk : SFoot m rb' nb' k) : SFoot m rb nb k ∨ s ≤ k := by
  rcases hk with h | h | h | h | h | h
  · exact .inl (.inl h)
  · exact .inl (.inr (.inl h))
  · exact .inl (.inr (.inr (.inl h)))
  · exact .inl (.inr (.inr (.inr (.inl h))))
  · rcases hr with hr | ⟨x, hx, hs⟩
    · exact .inl (.inr (.inr (.inr (.inr (.inl (by rw [← hr]; exact h))))))
    · rw [hx] at h; cases h; exact .inr hs
  · rcases hn with hn | ⟨x, hx, hs⟩
    · exact .inl (.inr (.inr (.inr (.inr (.inr (by rw [← hn]; exact h))))))
    · rw [hx] at h; cases h; exact .inr hs
theorem fr_later {m : Nat} {rb nb rb' nb' : Option Nat} {w w1 w2 : World} (h1 : Sy.Fr (SFoot m rb nb) w w1) (hr : Later w.heap.size rb rb') (hn : Later w.heap.size nb nb') (h2 : Sy.Fr (SFoot m rb' nb') w1 w2) : Sy.Fr (SFoot m rb nb) w w2 := by
  have a : Sy.Fr (fun k => SFoot m rb nb k ∨ w.heap.size ≤ k) w w1 := h1.mono (fun k _ h => .inl h)
  have b : Sy.Fr (fun k => SFoot m rb nb k ∨ w.heap.size ≤ k) w1 w2 := h2.mono (fun k _ h => foot_later hr hn h)
  exact (a.trans b).mono (fun k hk h => by rcases h with h | h; exact h; omega)
/-- new blocks alone, then a store's own doing -/
theorem fr_new {m : Nat} {rb nb : Option Nat} {w w1 w2 : World} (h1 : Below w.heap.size w w1) (h2 : Sy.Fr (SFoot m rb nb) w1 w2) : Sy.Fr (SFoot m rb nb) w w2 := (Sy.Fr.of_below (S := SFoot m rb nb) h1).trans h2
theorem stor_new {w w' : World} {m : Nat} {st : St} {rb nb : Option Nat} (h : Stor w m st rb nb) (hb : Below w.heap.size w w') : Stor w' m st rb nb := h.kept (Sy.Fr.of_below (S := fun _ => False) hb) (fun _ _ h => h)
/-- a block that is none of the store's stays -/
theorem fr_block {m k : Nat} {rb nb : Option Nat} {w w' : World} {o : Obj} (h : Sy.Fr (SFoot m rb nb) w w') (ho : w.heap[k]? = some o) (hk : ¬ SFoot m rb nb k) : w'.heap[k]? = some o := (h.block k (heap_lt ho) hk).trans ho
end Go.Proofs.YtnddcicadmbmkaaGreatDoor
