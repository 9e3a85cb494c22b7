/- The replacer that Text makes: built. -/
import Derived.Test.YtnddcicadmbmkaaGreatDoorB3
import Derived.LoopN
import Derived.Laws.Tables
import Derived.Deep.MidRow
import Derived.Laws.IdiomStrings
namespace Go.Proofs.YtnddcicadmbmkaaGreatDoor
open Go.RowKit

/-- the eight texts lie in block g -/
def Olds (w : World) (g : Nat) : Prop :=
  w.cell? ⟨g, 0, none⟩ = some (.string ⟨#[34]⟩) ∧ w.cell? ⟨g, 1, none⟩ = some (.string ⟨#[92, 34]⟩) ∧
  w.cell? ⟨g, 2, none⟩ = some (.string ⟨#[92]⟩) ∧ w.cell? ⟨g, 3, none⟩ = some (.string ⟨#[92, 92]⟩) ∧
  w.cell? ⟨g, 4, none⟩ = some (.string ⟨#[10]⟩) ∧ w.cell? ⟨g, 5, none⟩ = some (.string ⟨#[92, 110]⟩) ∧
  w.cell? ⟨g, 6, none⟩ = some (.string ⟨#[9]⟩) ∧ w.cell? ⟨g, 7, none⟩ = some (.string ⟨#[92, 116]⟩)

theorem zeroL : Tryz.zeroCells138.toList = List.replicate 257 (.slice none 0 0) := by kernel_rfl
theorem repl_set {n : Nat} {z x : Value} {j : Nat} (hj : j < n) (hne : j ≠ n - 1) : ((List.replicate n z).set (n - 1) x)[j]? = some z := by
  rw [List.getElem?_set_ne (by omega), List.getElem?_replicate, if_pos hj]
theorem repl_last {n : Nat} {z x : Value} (hn : 0 < n) : ((List.replicate n z).set (n - 1) x)[n - 1]? = some x := by
  rw [List.getElem?_set_self (by simp; omega)]
theorem repl_one {n k : Nat} {z x : Value} (hz : z.oneCell' = true) (hx : x.oneCell' = true) : ∀ v ∈ (List.replicate n z).set k x, v.oneCell' = true := by
  intro v hv
  rcases List.mem_or_eq_of_mem_set hv with hv | hv
  · rw [(List.mem_replicate.1 hv).2]; exact hz
  · rw [hv]; exact hx
theorem zero138 : Tryz.zeroCells138.size = 257 := by kernel_rfl
/-- the replacer's cells when it is new -/
def newR (sl : Value) : List Value := (List.replicate 257 (.slice none 0 0)).set 256 sl
theorem newR_eq (sl : Value) : Tryz.zeroCells138.toList.set 256 sl = newR sl := by unfold newR; rw [zeroL]
theorem newR_len (sl : Value) : (newR sl).length = 257 := by
  unfold newR; rw [List.length_set, List.length_replicate]
theorem newR_lt {sl : Value} {j : Nat} (h : j < 256) : (newR sl)[j]? = some (.slice none 0 0) := repl_set (n := 257) (by omega) (by omega)
theorem newR_last {sl : Value} : (newR sl)[256]? = some sl := repl_last (n := 257) (by omega)
theorem newR_one {sl : Value} (h : sl.oneCell' = true) : ∀ v ∈ newR sl, v.oneCell' = true := repl_one rfl h

theorem store_all {b : Nat} {old : Array Value} {t : TypeId} : ∀ (vs : List Value) (o : Nat) (w : World) (pre : List Value), w.heap[b]? = some (.cells old t (0, 0)) → old.size = o + vs.length → old.toList.take o = pre → pre.length = o →
    (w.setCells b o vs).heap[b]? = some (.cells (pre ++ vs).toArray t (0, 0)) := by
  intro vs
  induction vs generalizing old with
  | nil =>
    intro o w pre h hs hp hl
    unfold World.setCells
    rw [h, List.append_nil, ← hp, List.take_of_length_le (by rw [Array.length_toList]; simp at hs; omega)]
  | cons v r ih =>
    intro o w pre h hs hp hl
    unfold World.setCells
    have h2 : (w.setCell ⟨b, o, none⟩ v).heap[b]? = some (.cells (old.set! o v) t (0, 0)) := by
      simp [World.setCell, Array.getElem?_modify, h]
    have h3 := ih (old := old.set! o v) (o + 1) _ (pre ++ [v]) h2 (by simp at hs ⊢; omega) ?_ (by simp [hl])
    · rw [h3]; simp
    · simp only [Array.set!_eq_setIfInBounds, Array.toList_setIfInBounds]
      rw [List.take_add_one, List.getElem?_set_self (by simp at hs ⊢; omega), List.take_set_of_le (Nat.le_refl _), hp]
      rfl

/-- what a byte's place in the replacer holds -/
def Ent (B : Nat) (w : World) (r : Nat) (v : Value) : Option (List UInt8) → Prop
  | none => v = .slice none 0 0
  | some l => ∃ g cap cs fz, v = .slice (some ⟨g, 0, none⟩) l.length cap ∧ l.length ≤ cap ∧ B ≤ g ∧ g ≠ r ∧ w.heap[g]? = some (.cells cs 5 fz) ∧ ∀ (j : Nat) (u : UInt8), l[j]? = some u → cs[j]? = some (Value.int .u8 (u.toNat : Int))
/-- a replacer under way: block r, its places es, its texts ts -/
def RIn (B : Nat) (w : World) (r : Nat) (es : Nat → Option (List UInt8)) (ts : List ByteArray) : Prop :=
  B ≤ r ∧ ∃ cells sl, w.heap[r]? = some (.cells cells 138 (0, 0)) ∧ cells.size = 257 ∧ cells[256]? = some sl ∧ w.ownsRow B 9 1 sl ts.length (ts.map .string) ∧ sl.ownBlock ≠ some r ∧ ∀ i, i < 256 → ∃ v, cells[i]? = some v ∧ Ent B w r v (es i)

theorem own_same {w w' : World} {B n : Nat} {e : TypeId} {v : Value} {xs : List Value} (h : w.ownsRow B e 1 v n xs) (hk : ∀ k, v.ownBlock = some k → w'.heap[k]? = w.heap[k]?) : w'.ownsRow B e 1 v n xs := by
  refine ⟨h.1, ?_⟩
  rcases h.2 with h2 | ⟨g, cap, cur, rfl, h3, h4, h5⟩
  · exact .inl h2
  · exact .inr ⟨g, cap, cur, rfl, h3, (hk g rfl).trans h4, h5⟩
theorem Ent.keep {B : Nat} {w w' : World} {r : Nat} {v : Value} {o : Option (List UInt8)} (h : Ent B w r v o) (hk : ∀ k cs fz, B ≤ k → k ≠ r → w.heap[k]? = some (.cells cs 5 fz) → w'.heap[k]? = w.heap[k]?) : Ent B w' r v o := by
  cases o with
  | none => unfold Ent at h ⊢; exact h
  | some l =>
    unfold Ent at h ⊢
    obtain ⟨g, cap, cs, fz, h1, h2, h3, h4, h5, h6⟩ := h
    exact ⟨g, cap, cs, fz, h1, h2, h3, h4, (hk g cs fz h3 h4 h5).trans h5, h6⟩
theorem RIn.lt {B : Nat} {w : World} {r : Nat} {es : Nat → Option (List UInt8)} {ts : List ByteArray} (h : RIn B w r es ts) : r < w.heap.size := by
  obtain ⟨_, cells, sl, h1, _⟩ := h
  rcases Nat.lt_or_ge r w.heap.size with h' | h'
  · exact h'
  · rw [Array.getElem?_eq_none h'] at h1; cases h1
theorem heap_lt {w : World} {g : Nat} {o : Obj} (h : w.heap[g]? = some o) : g < w.heap.size := by
  rcases Nat.lt_or_ge g w.heap.size with h' | h'
  · exact h'
  · rw [Array.getElem?_eq_none h'] at h; cases h
/-- nothing old turns -/
theorem RIn.keep {B : Nat} {w w' : World} {r : Nat} {es : Nat → Option (List UInt8)} {ts : List ByteArray} (h : RIn B w r es ts) (hk : ∀ k, B ≤ k → k < w.heap.size → w'.heap[k]? = w.heap[k]?) : RIn B w' r es ts := by
  have hl := h.lt
  obtain ⟨h0, cells, sl, h1, h2, h3, h4, h5, h6⟩ := h
  refine ⟨h0, cells, sl, (hk r h0 hl).trans h1, h2, h3, own_same h4 (fun k e => hk k (h4.lt k e).1 (h4.lt k e).2), h5, fun i hi => ?_⟩
  obtain ⟨v, g1, g2⟩ := h6 i hi
  exact ⟨v, g1, g2.keep (fun k cs fz e1 _ e3 => hk k e1 (heap_lt e3))⟩
theorem RIn.below {B _B' : Nat} {w w' : World} {r : Nat} {es : Nat → Option (List UInt8)} {ts : List ByteArray} (h : RIn B w r es ts) (hb : Below w.heap.size w w') : RIn B w' r es ts := h.keep (fun k _ hk => hb.block k hk)
/-- a text more -/
theorem RIn.text {B : Nat} {w w2 : World} {r : Nat} {es : Nat → Option (List UInt8)} {ts : List ByteArray} {t : ByteArray} {sl sl' : Value} (h : RIn B w r es ts) (hc : w.cell? ⟨r, 256, none⟩ = some sl)
    (hg : w.grownBy w2 sl.ownBlock) (ho : w2.ownsRow B 9 1 sl' (ts.length + 1) (ts.map .string ++ [.string t])) (hne : sl'.ownBlock ≠ some r) : RIn B (w2.setCell ⟨r, 256, none⟩ sl') r es (ts ++ [t]) := by
  have hl := h.lt
  obtain ⟨h0, cells, sl0, h1, h2, h3, h4, h5, h6⟩ := h
  have hs : sl0 = sl := by
    simp only [World.cell?, h1] at hc
    rw [h3] at hc
    exact Option.some.inj hc
  subst hs
  have hr2 : w2.heap[r]? = some (.cells cells 138 (0, 0)) := (hg.block r hl (fun e => h5 e.symm)).trans h1
  have hkeep : ∀ k cs fz, B ≤ k → k ≠ r → w.heap[k]? = some (.cells cs 5 fz) → (w2.setCell ⟨r, 256, none⟩ sl').heap[k]? = w.heap[k]? := by
    intro k cs fz e1 e2 e3
    rw [Below.heap_setCell _ _ _ _ e2]
    refine hg.block k (heap_lt e3) ?_
    intro e
    rcases h4.2 with ⟨e4, _⟩ | ⟨g, cap, cur, e4, _, e5, _⟩
    · rw [e4] at e; simp [Value.ownBlock] at e
    · rw [e4] at e
      simp only [Value.ownBlock, Option.some.injEq] at e
      rw [← e, e3] at e5
      simp at e5
  refine ⟨h0, cells.set! 256 sl', sl', ?_, by simp [h2], ?_, ?_, hne, fun i hi => ?_⟩
  · simp [World.setCell, Array.getElem?_modify, hr2]
  · simp [h2]
  · have h7 := own_same (w' := w2.setCell ⟨r, 256, none⟩ sl') ho (fun k e => Below.heap_setCell _ _ _ _ (fun e2 => hne (by rw [e, e2])))
    simpa using h7
  · obtain ⟨v, g1, g2⟩ := h6 i hi
    refine ⟨v, ?_, g2.keep hkeep⟩
    rw [Array.set!_eq_setIfInBounds, Array.getElem?_setIfInBounds_ne (by omega)]
    exact g1
/-- a place more -/
theorem RIn.place {B : Nat} {w : World} {r o : Nat} {es : Nat → Option (List UInt8)} {ts : List ByteArray} {v : Value} {l : List UInt8} (h : RIn B w r es ts) (ho : o < 256) (hv : Ent B w r v (some l)) : RIn B (w.setCell ⟨r, o, none⟩ v) r (fun i => if i = o then some l else es i) ts := by
  obtain ⟨h0, cells, sl, h1, h2, h3, h4, h5, h6⟩ := h
  have hkeep : ∀ k cs fz, B ≤ k → k ≠ r → w.heap[k]? = some (.cells cs 5 fz) → (w.setCell ⟨r, o, none⟩ v).heap[k]? = w.heap[k]? := fun k cs fz _ e2 _ => Below.heap_setCell _ _ _ _ e2
  refine ⟨h0, cells.set! o v, sl, ?_, by simp [h2], ?_, own_same h4 (fun k e => Below.heap_setCell _ _ _ _ (fun e2 => h5 (by rw [e, e2]))), h5, fun i hi => ?_⟩
  · simp [World.setCell, Array.getElem?_modify, h1]
  · rw [Array.set!_eq_setIfInBounds, Array.getElem?_setIfInBounds_ne (by omega)]; exact h3
  · by_cases e : i = o
    · subst e
      refine ⟨v, ?_, ?_⟩
      · rw [Array.set!_eq_setIfInBounds, Array.getElem?_setIfInBounds_self_of_lt (by omega)]
      · show Ent _ _ _ _ (if i = i then _ else _)
        rw [if_pos rfl]; exact hv.keep hkeep
    · obtain ⟨u, g1, g2⟩ := h6 i hi
      refine ⟨u, ?_, ?_⟩
      · rw [Array.set!_eq_setIfInBounds, Array.getElem?_setIfInBounds_ne (Ne.symm e)]; exact g1
      · show Ent _ _ _ _ (if i = o then _ else _)
        rw [if_neg e]; exact g2.keep hkeep
theorem RIn.cell {B : Nat} {w : World} {r i : Nat} {es : Nat → Option (List UInt8)} {ts : List ByteArray} (h : RIn B w r es ts) (hi : i < 256) (he : es i = none) : w.cell? ⟨r, i, none⟩ = some (.slice none 0 0) := by
  obtain ⟨_, cells, sl, h1, _, _, _, _, h6⟩ := h
  obtain ⟨v, g1, g2⟩ := h6 i hi
  rw [he] at g2
  unfold Ent at g2
  rw [g2] at g1
  simp [World.cell?, h1, g1]
theorem RIn.texts {B : Nat} {w : World} {r : Nat} {es : Nat → Option (List UInt8)} {ts : List ByteArray} (h : RIn B w r es ts) : ∃ sl, w.cell? ⟨r, 256, none⟩ = some sl ∧ w.ownsRow B 9 1 sl ts.length (ts.map .string) ∧ sl.ownBlock ≠ some r := by
  obtain ⟨_, cells, sl, h1, _, h3, h4, h5, _⟩ := h
  exact ⟨sl, by simp [World.cell?, h1, h3], h4, h5⟩
theorem RIn.thaw {B : Nat} {w : World} {r : Nat} {es : Nat → Option (List UInt8)} {ts : List ByteArray} (h : RIn B w r es ts) (i : Nat) : w.frozen? ⟨r, i, none⟩ = false := by
  obtain ⟨_, cells, sl, h1, _⟩ := h
  simp only [World.frozen?, h1]; simp

end Go.Proofs.YtnddcicadmbmkaaGreatDoor
