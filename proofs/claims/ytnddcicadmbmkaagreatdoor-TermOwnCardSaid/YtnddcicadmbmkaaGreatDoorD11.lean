/- Values in memory whose blocks are such as P says: what a store's doing leaves of them. -/
import Derived.Test.YtnddcicadmbmkaaGreatDoorD5
namespace Go.Proofs.YtnddcicadmbmkaaGreatDoor
open Go.RowKit

mutual
def SubP (P : Nat → Prop) (w : World) : V → Value → Prop
  | .mk _ _ _ ps, sl => ∃ a cap, sl = .slice a ps.length cap ∧ ps.length ≤ cap ∧ (ps = [] ∨ ∃ b off, a = some ⟨b, off, none⟩ ∧ P b ∧ EltsP P w b off ps)
def EltsP (P : Nat → Prop) (w : World) (b : Nat) : Nat → List V → Prop
  | _, [] => True
  | off, x :: r => (∃ sl, w.cell? ⟨b, off, none⟩ = some (.int .i64 x.k) ∧ w.cell? ⟨b, off + 1, none⟩ = some (.int .i64 x.n) ∧ w.cell? ⟨b, off + 2, none⟩ = some (.string x.s) ∧ w.cell? ⟨b, off + 3, none⟩ = some sl ∧ SubP P w x sl) ∧ EltsP P w b (off + 4) r
end
/-- x is the struct v, its blocks are such as P says -/
def IsVP (P : Nat → Prop) (w : World) (v : V) (x : Value) : Prop := ∃ sl, x = .agg #[.int .i64 v.k, .int .i64 v.n, .string v.s, sl] ∧ SubP P w v sl

mutual
theorem SubP.move {P Q : Nat → Prop} {w w' : World} (hb : ∀ k, P k → Q k ∧ ∀ j, w'.cell? ⟨k, j, none⟩ = w.cell? ⟨k, j, none⟩) : ∀ {v : V} {sl : Value}, SubP P w v sl → SubP Q w' v sl
  | .mk _ _ _ ps, sl, h => by
    unfold SubP at h ⊢
    obtain ⟨a, cap, h1, h2, h3⟩ := h
    refine ⟨a, cap, h1, h2, ?_⟩
    rcases h3 with h3 | ⟨b, off, h3, h4, h5⟩
    · exact .inl h3
    · exact .inr ⟨b, off, h3, (hb b h4).1, EltsP.move hb h4 h5⟩
theorem EltsP.move {P Q : Nat → Prop} {w w' : World} (hb : ∀ k, P k → Q k ∧ ∀ j, w'.cell? ⟨k, j, none⟩ = w.cell? ⟨k, j, none⟩) {b : Nat} (hlt : P b) : ∀ {l : List V} {off : Nat}, EltsP P w b off l → EltsP Q w' b off l
  | [], _, _ => by unfold EltsP; trivial
  | x :: r, off, h => by
    unfold EltsP at h ⊢
    obtain ⟨⟨sl, h1, h2, h3, h4, h5⟩, h6⟩ := h
    have e := (hb b hlt).2
    exact ⟨⟨sl, (e _).trans h1, (e _).trans h2, (e _).trans h3, (e _).trans h4, SubP.move hb h5⟩, EltsP.move hb hlt h6⟩
end
theorem IsVP.move {P Q : Nat → Prop} {w w' : World} (hb : ∀ k, P k → Q k ∧ ∀ j, w'.cell? ⟨k, j, none⟩ = w.cell? ⟨k, j, none⟩) {v : V} {x : Value} (h : IsVP P w v x) : IsVP Q w' v x := by
  obtain ⟨sl, h1, h2⟩ := h
  exact ⟨sl, h1, h2.move hb⟩
theorem IsVP.blocks {P : Nat → Prop} {w w' : World} (hb : ∀ k, P k → w'.heap[k]? = w.heap[k]?) {v : V} {x : Value} (h : IsVP P w v x) : IsVP P w' v x :=
  h.move (fun k hk => ⟨hk, fun j => World.cell?_of_block (a := ⟨k, j, none⟩) (hb k hk)⟩)
theorem IsVP.mono {P Q : Nat → Prop} {w : World} (hb : ∀ k, P k → Q k) {v : V} {x : Value} (h : IsVP P w v x) : IsVP Q w v x := h.move (fun k hk => ⟨hb k hk, fun _ => rfl⟩)

mutual
theorem Sub.of_p {B : Nat} {w : World} : ∀ {v : V} {sl : Value}, SubP (fun k => k < B) w v sl → Sub B w v sl
  | .mk _ _ _ ps, sl, h => by
    unfold SubP at h
    unfold Sub
    obtain ⟨a, cap, h1, h2, h3⟩ := h
    refine ⟨a, cap, h1, h2, ?_⟩
    rcases h3 with h3 | ⟨b, off, h3, h4, h5⟩
    · exact .inl h3
    · exact .inr ⟨b, off, h3, h4, Elts.of_p h5⟩
theorem Elts.of_p {B : Nat} {w : World} {b : Nat} : ∀ {l : List V} {off : Nat}, EltsP (fun k => k < B) w b off l → Elts B w b off l
  | [], _, _ => by unfold Elts; trivial
  | x :: r, off, h => by
    unfold EltsP at h
    unfold Elts
    obtain ⟨⟨sl, h1, h2, h3, h4, h5⟩, h6⟩ := h
    exact ⟨⟨sl, h1, h2, h3, h4, Sub.of_p h5⟩, Elts.of_p h6⟩
end
mutual
theorem Sub.to_p {B : Nat} {w : World} : ∀ {v : V} {sl : Value}, Sub B w v sl → SubP (fun k => k < B) w v sl
  | .mk _ _ _ ps, sl, h => by
    unfold Sub at h
    unfold SubP
    obtain ⟨a, cap, h1, h2, h3⟩ := h
    refine ⟨a, cap, h1, h2, ?_⟩
    rcases h3 with h3 | ⟨b, off, h3, h4, h5⟩
    · exact .inl h3
    · exact .inr ⟨b, off, h3, h4, Elts.to_p h5⟩
theorem Elts.to_p {B : Nat} {w : World} {b : Nat} : ∀ {l : List V} {off : Nat}, Elts B w b off l → EltsP (fun k => k < B) w b off l
  | [], _, _ => by unfold EltsP; trivial
  | x :: r, off, h => by
    unfold Elts at h
    unfold EltsP
    obtain ⟨⟨sl, h1, h2, h3, h4, h5⟩, h6⟩ := h
    exact ⟨⟨sl, h1, h2, h3, h4, Sub.to_p h5⟩, Elts.to_p h6⟩
end
theorem IsV.of_p {B : Nat} {P : Nat → Prop} {w : World} {v : V} {x : Value} (h : IsVP P w v x) (hB : ∀ k, P k → k < B) : IsV B w v x := by
  obtain ⟨sl, h1, h2⟩ := h
  exact ⟨sl, h1, Sub.of_p (h2.move (fun k hk => ⟨hB k hk, fun _ => rfl⟩))⟩
theorem IsV.to_p {B : Nat} {w : World} {v : V} {x : Value} (h : IsV B w v x) : IsVP (fun k => k < B) w v x := by
  obtain ⟨sl, h1, h2⟩ := h
  exact ⟨sl, h1, Sub.to_p h2⟩
theorem EltsP.at {P : Nat → Prop} {w : World} {b : Nat} : ∀ {l : List V} {off i : Nat}, EltsP P w b off l → i < l.length →
    ∃ sl, w.cell? ⟨b, off + i * 4, none⟩ = some (.int .i64 (nthV l i).k) ∧ w.cell? ⟨b, off + i * 4 + 1, none⟩ = some (.int .i64 (nthV l i).n) ∧ w.cell? ⟨b, off + i * 4 + 2, none⟩ = some (.string (nthV l i).s) ∧ w.cell? ⟨b, off + i * 4 + 3, none⟩ = some sl ∧ SubP P w (nthV l i) sl
  | [], _, _, _, h => by simp at h
  | x :: r, off, 0, h, _ => by
    unfold EltsP at h
    exact h.1
  | x :: r, off, i + 1, h, hi => by
    unfold EltsP at h
    obtain ⟨sl, h1⟩ := EltsP.at h.2 (i := i) (by simpa using hi)
    refine ⟨sl, ?_⟩
    rw [show off + (i + 1) * 4 = off + 4 + i * 4 by omega]
    exact h1
theorem IsVP.open {P : Nat → Prop} {w : World} {v : V} {x : Value} (h : IsVP P w v x) : ∃ a cap, x = .agg #[.int .i64 v.k, .int .i64 v.n, .string v.s, .slice a v.ps.length cap] ∧ v.ps.length ≤ cap ∧ (v.ps = [] ∨ ∃ b off, a = some ⟨b, off, none⟩ ∧ P b ∧ EltsP P w b off v.ps) := by
  obtain ⟨sl, rfl, h2⟩ := h
  cases v with
  | mk k n s ps =>
    unfold SubP at h2
    obtain ⟨a, cap, rfl, h3, h4⟩ := h2
    exact ⟨a, cap, rfl, h3, h4⟩
theorem subP_isV {P : Nat → Prop} {w : World} {v : V} {sl : Value} (h : SubP P w v sl) : IsVP P w v (.agg #[.int .i64 v.k, .int .i64 v.n, .string v.s, sl]) := ⟨sl, rfl, h⟩
theorem subP_slice {P : Nat → Prop} {w : World} {v : V} {sl : Value} (h : SubP P w v sl) : ∃ a cap, sl = .slice a v.ps.length cap := by
  cases v with
  | mk k n s ps =>
    unfold SubP at h
    obtain ⟨a, cap, h1, _⟩ := h
    exact ⟨a, cap, h1⟩

/-- P's blocks are there, and none is the store's -/
def Far (P : Nat → Prop) (w : World) (m : Nat) (rb nb : Option Nat) : Prop := ∀ k, P k → k < w.heap.size ∧ ¬ SFoot m rb nb k
theorem Far.later {P : Nat → Prop} {w w' : World} {m : Nat} {rb nb rb' nb' : Option Nat} (h : Far P w m rb nb) (hs : w.heap.size ≤ w'.heap.size) (hr : Later w.heap.size rb rb') (hn : Later w.heap.size nb nb') : Far P w' m rb' nb' := fun k hk => by
  have := h k hk
  refine ⟨by omega, fun hf => ?_⟩
  rcases foot_later hr hn hf with h1 | h1
  · exact this.2 h1
  · omega
theorem Far.size {P : Nat → Prop} {w w' : World} {m : Nat} {rb nb : Option Nat} (h : Far P w m rb nb) (hs : w.heap.size ≤ w'.heap.size) : Far P w' m rb nb := h.later hs (.inl rfl) (.inl rfl)
theorem IsVP.kept {P : Nat → Prop} {w w' : World} {m : Nat} {rb nb : Option Nat} {v : V} {x : Value} (h : IsVP P w v x) (hf : Far P w m rb nb) (hfr : Sy.Fr (SFoot m rb nb) w w') : IsVP P w' v x :=
  h.blocks (fun k hk => hfr.block k (hf k hk).1 (hf k hk).2)
theorem IsVP.below {P : Nat → Prop} {w w' : World} {m : Nat} {rb nb : Option Nat} {v : V} {x : Value} (h : IsVP P w v x) (hf : Far P w m rb nb) (hb : Below w.heap.size w w') : IsVP P w' v x :=
  h.blocks (fun k hk => hb.block k (hf k hk).1)
theorem EltsP.kept {P : Nat → Prop} {w w' : World} {m : Nat} {rb nb : Option Nat} {b off : Nat} {l : List V} (hb : P b) (h : EltsP P w b off l) (hf : Far P w m rb nb) (hfr : Sy.Fr (SFoot m rb nb) w w') : EltsP P w' b off l :=
  h.move (fun k hk => ⟨hk, fun j => World.cell?_of_block (a := ⟨k, j, none⟩) (hfr.block k (hf k hk).1 (hf k hk).2)⟩) hb
theorem Far.low {B m : Nat} {w : World} {st : St} {rb nb : Option Nat} (h : Stor w m st rb nb) (hB : B ≤ m) : Far (fun k => k < B) w m rb nb := fun k hk => by
  have hr := h.rows
  refine ⟨by omega, ?_⟩
  rintro (e | e | e | e | e | e)
  · omega
  · omega
  · omega
  · omega
  · have := hr.1 k e; omega
  · have := hr.2.1 k e; omega
end Go.Proofs.YtnddcicadmbmkaaGreatDoor
