/- The walk of SymWalks: a table and boxes beside it. -/
import Derived.Test.YtpeacdghphnmbaaR2
namespace Go.Proofs.Ytpeacdghphnmbaa
open Go.RowKit Go.Maps Go.Shelf

attribute [local go_sem] Oper.semAt_some

/-- Blocks m, m + 1 of W are a table with the texts L; beside it lie the boxes Bs; all of it from h on, and below h the world is as w was. -/
def WalkB (h m : Nat) (w W : World) (L : List ByteArray) (Bs : List (Nat × TypeId × Value)) : Prop :=
  ∃ rb sv D n, Tab W m L rb sv D n ∧ (∀ p ∈ Bs, Boxed W p.1 p.2.1 p.2.2 ∧ h ≤ p.1 ∧ p.1 ≠ m ∧ p.1 ≠ m + 1 ∧ rb ≠ some p.1) ∧ h ≤ m ∧ Below h w W ∧ h ≤ W.heap.size

theorem WalkB.box {h m : Nat} {w W : World} {L : List ByteArray} {Bs : List (Nat × TypeId × Value)} (H : WalkB h m w W L Bs) {p : Nat × TypeId × Value} (hp : p ∈ Bs) : Boxed W p.1 p.2.1 p.2.2 := by
  obtain ⟨rb, sv, D, n, hT, hb, _⟩ := H
  exact (hb p hp).1

theorem WalkB.put {h m : Nat} {w W W' : World} {L : List ByteArray} {Bs : List (Nat × TypeId × Value)} {rb : Option Nat} {sv : Value} {D : DataW Unit} {n : Nat} {s : ByteArray} (hT : Tab W m L rb sv D n)
    (hb : ∀ p ∈ Bs, Boxed W p.1 p.2.1 p.2.2 ∧ h ≤ p.1 ∧ p.1 ≠ m ∧ p.1 ≠ m + 1 ∧ rb ≠ some p.1) (hm : h ≤ m) (hB : Below h w W) (hs : h ≤ W.heap.size)
    (h1 : ∃ rb' sv' D' n', Tab W' m (pL L s) rb' sv' D' n' ∧ (rb' = rb ∨ ∃ g, rb' = some g ∧ W.heap.size ≤ g) ∧ Fr (Foot m rb) W W') : WalkB h m w W' (pL L s) Bs := by
  obtain ⟨rb', sv', D', n', hT1, hr1, hF⟩ := h1
  have hz := hF.size
  refine ⟨rb', sv', D', n', hT1, fun p hp => ?_, hm, hB.trans (hF.below hs (fun j hj => ?_)), by omega⟩
  · obtain ⟨b1, b2, b3, b4, b5⟩ := hb p hp
    refine ⟨?_, b2, b3, b4, fun e => ?_⟩
    · show W'.heap[p.1]? = _
      rw [hF.block p.1 b1.lt (fun hf => by
        rcases hf with h | h | h
        · exact b3 h
        · exact b4 h
        · exact b5 h)]
      exact b1
    · rcases hr1 with h | ⟨g, h, h'⟩
      · exact b5 (h ▸ e)
      · rw [h] at e; cases e
        have := b1.lt; omega
  · rcases hj with h | h | h
    · omega
    · omega
    · have := (hT.lt j h).2; omega

theorem WalkB.alloc {h m : Nat} {w W : World} {L : List ByteArray} {Bs : List (Nat × TypeId × Value)} (H : WalkB h m w W L Bs) (v : Value) (t : TypeId) : WalkB h m w (W.alloc (.cells #[v] t)) L (Bs ++ [(W.heap.size, t, v)]) := by
  obtain ⟨rb, sv, D, n, hT, hb, hm, hB, hs⟩ := H
  have hc := lt_of_block hT.cells
  refine ⟨rb, sv, D, n, hT.kept (S := fun _ => False) (Fr.of_alloc _ _ _) (fun _ _ h => h), fun p hp => ?_, hm, hB.alloc hs _, by simp; omega⟩
  rcases List.mem_append.1 hp with hp | hp
  · obtain ⟨b1, b2⟩ := hb p hp
    exact ⟨b1.alloc _, b2⟩
  · simp at hp
    subst hp
    exact ⟨Boxed.new _ _ _, by show h ≤ W.heap.size; omega, by show W.heap.size ≠ m; omega, by show W.heap.size ≠ m + 1; omega, fun e => by have := (hT.lt _ e).1; omega⟩

/-- A store into one of the boxes. -/
theorem WalkB.set {h m : Nat} {w W : World} {L : List ByteArray} {Bs Bs' : List (Nat × TypeId × Value)} (H : WalkB h m w W L Bs) {B : Nat} {t : TypeId} {v : Value} (hB : (B, t, v) ∈ Bs) (v' : Value)
    (hbs : ∀ p ∈ Bs', p = (B, t, v') ∨ (p ∈ Bs ∧ p.1 ≠ B)) : WalkB h m w (W.setCell ⟨B, 0, none⟩ v') L Bs' := by
  obtain ⟨rb, sv, D, n, hT, hb, hm, hBe, hs⟩ := H
  obtain ⟨b1, b2, b3, b4, b5⟩ := hb _ hB
  refine ⟨rb, sv, D, n, hT.kept (S := fun j => j = B) (Fr.of_setCell _ (by rfl) _) (fun k hk e => ?_), fun p hp => ?_, hm, hBe.setCell (p := ⟨B, 0, none⟩) b2 _, by simpa [World.setCell] using hs⟩
  · subst e
    rcases hk with h | h | h
    · exact b3 h
    · exact b4 h
    · exact b5 h
  · rcases hbs p hp with rfl | ⟨h1, h2⟩
    · exact ⟨b1.set _, b2, b3, b4, b5⟩
    · obtain ⟨c1, c2⟩ := hb p h1
      exact ⟨c1.kept (grownBy_setCell' _ _ _) (fun e => h2 (by cases e; rfl)), c2⟩

theorem walkB_own {β : Type} {h m B : Nat} {w : World} (hmB : m < B) (L : β → List ByteArray → Prop) (Bs : β → List (Nat × TypeId × Value)) : OwnFrom B (fun s W => ∃ L', L s L' ∧ WalkB h m w W L' (Bs s) ∧ h ≤ B) := by
  rintro s W W' row ⟨L', hL, ⟨rb, sv, D, n, hT, hb, hm, hB, hs⟩, hhB⟩ hg hr
  have hcell : ∀ {k : Nat} {c : Array Value} {t : TypeId} {f : Nat × Nat}, W.heap[k]? = some (.cells c t f) → row ≠ some k := fun hk e => by
    obtain ⟨_, o, ho, hc⟩ := hr _ e
    rw [hk] at ho; cases ho; cases hc
  have hz := hg.size
  refine ⟨L', hL, ⟨rb, sv, D, n, hT.kept (S := fun j => row = some j) (Fr.of_grown hg (fun _ e => e)) (fun k hk e => ?_), fun p hp => ?_, hm, ?_, by omega⟩, hhB⟩
  · rcases hk with h | h | h
    · subst h; have := (hr _ e).1; omega
    · subst h; exact hcell hT.cells e
    · rcases hT.row.2 with ⟨h2, _⟩ | ⟨g, cap, cur, h1, h2, h3, r⟩
      · have := hT.blk; rw [h2] at this; rw [← this] at h; cases h
      · have := hT.blk; rw [h1] at this; rw [← this] at h; cases h
        exact hcell h3 e
  · obtain ⟨b1, b2⟩ := hb p hp
    exact ⟨b1.kept hg (fun e => hcell b1 e.symm), b2⟩
  · exact hB.grown hg hs (fun k e => by have := (hr k e).1; omega)

/-- The table's texts are among those that were put. -/
theorem pL_mem {L : List ByteArray} {s t : ByteArray} (h : t ∈ pL L s) : t ∈ L ∨ t = s := by
  unfold pL at h
  split at h
  · exact .inl h
  · split at h
    · exact .inl h
    · simpa using h
theorem plays_mem {l : List ByteArray} {t : ByteArray} : ∀ {k : Nat}, t ∈ plays l k → t ∈ l := by
  intro k
  induction k with
  | zero => intro h; simp [plays] at h
  | succ k ih =>
    intro h
    by_cases hk : k < l.length
    · rw [plays_succ hk] at h
      rcases pL_mem h with h | h
      · exact ih h
      · rw [h]; unfold nth; simp [hk]
    · have e : plays l (k + 1) = plays l k := by
        unfold plays
        rw [List.take_of_length_le (by omega), List.take_of_length_le (by omega)]
      rw [e] at h; exact ih h
theorem pL_prefix {P L : List ByteArray} {s : ByteArray} (h : P <+: L) : P <+: pL L s := by
  unfold pL
  split
  · exact h
  · split
    · exact h
    · exact h.trans (List.prefix_append _ _)
theorem nth_prefix {P L : List ByteArray} (h : P <+: L) {k : Nat} (hk : k < P.length) : nth L k = nth P k := by
  obtain ⟨t, rfl⟩ := h
  unfold nth
  rw [List.getD, List.getD, List.getElem?_append_left hk]
theorem Sees.less {m Bt : Nat} {P L : List ByteArray} {W : World} (h : Sees m Bt L W) (hp : P <+: L) : Sees m Bt P W := by
  refine ⟨h.1, ?_⟩
  rcases h.2 with h0 | ⟨g, n, cap, h1, h2, h3⟩
  · subst h0
    left
    exact List.prefix_nil.1 hp
  · have := hp.length_le
    exact .inr ⟨g, n, cap, h1, by omega, fun k hk => by rw [h3 k (by omega), nth_prefix hp hk]⟩

def base3 (h : Nat) (lv : Int) : List (Nat × TypeId × Value) := [(h, 3, .int .i64 lv), (h + 1, 4, .bool false), (h + 4, 23, .pointer (some ⟨h + 3, 0, none⟩))]
def walkBs (h : Nat) (lv : Int) (Z was i : Nat) : List (Nat × TypeId × Value) := base3 h lv ++ [(Z, 3, .int .i64 was), (Z + 1, 3, .int .i64 i), (Z + 1 + 1, 23, .pointer (some ⟨h + 3, 0, none⟩))]
theorem walk_box {h m Z was i : Nat} {w W : World} {lv : Int} {L : List ByteArray} (H : WalkB h m w W L (walkBs h lv Z was i)) :
    Boxed W (h + 4) 23 (.pointer (some ⟨h + 3, 0, none⟩)) ∧ Boxed W (h + 1) 4 (.bool false) ∧ Boxed W Z 3 (.int .i64 was) ∧ Boxed W (Z + 1) 3 (.int .i64 i) ∧ Boxed W h 3 (.int .i64 lv) :=
  ⟨H.box (p := (h + 4, 23, .pointer (some ⟨h + 3, 0, none⟩))) (by simp [walkBs, base3]), H.box (p := (h + 1, 4, .bool false)) (by simp [walkBs, base3]), H.box (p := (Z, 3, .int .i64 was)) (by simp [walkBs, base3]),
    H.box (p := (Z + 1, 3, .int .i64 i)) (by simp [walkBs, base3]), H.box (p := (h, 3, .int .i64 lv)) (by simp [walkBs, base3])⟩
theorem walk_sz {h m : Nat} {w W : World} {lv : Int} {L : List ByteArray} (H : WalkB h m w W L (base3 h lv)) : h + 5 ≤ W.heap.size := by
  have := (H.box (p := (h + 4, 23, .pointer (some ⟨h + 3, 0, none⟩))) (by simp [base3])).lt
  show h + 4 < _
  exact this
theorem walk_w0 {h Z n : Nat} {w wr W0 : World} {lv : Int} {P : List ByteArray} (H : WalkB h (h + 2) w ((wr.alloc (.cells #[.int .i64 (n : Nat)] 3)).alloc (.cells #[.int .i64 0] 3)) P ((base3 h lv ++ [(wr.heap.size, 3, .int .i64 (n : Nat))]) ++ [((wr.alloc (.cells #[.int .i64 (n : Nat)] 3)).heap.size, 3, .int .i64 0)]))
    (hZ : Z = wr.heap.size) (hW : W0 = (((wr.alloc (.cells #[.int .i64 (n : Nat)] 3)).alloc (.cells #[.int .i64 0] 3)).alloc (.cells #[.pointer (some ⟨h + 3, 0, none⟩)] 23))) : WalkB h (h + 2) w W0 P (walkBs h lv Z n 0) := by
  have := H.alloc (.pointer (some ⟨h + 3, 0, none⟩)) 23
  subst hZ hW
  simpa [walkBs] using this
theorem nth_in {P : List ByteArray} {k : Nat} (h : k < P.length) : nth P k ∈ P := by unfold nth; simp [h]
theorem walk_cat {s : ByteArray} (h : s.size + 1 ≤ 140737488351233) : (s ++ ⟨#[39]⟩).size ≤ maxLen := by
  rw [ByteArray.size_append]
  unfold maxLen
  show s.size + 1 ≤ _
  omega
theorem walk_len {h m : Nat} {w W : World} {P L : List ByteArray} {Bs : List (Nat × TypeId × Value)} (hp : P <+: L) (H : WalkB h m w W L Bs) : P.length ≤ 16384 := by
  obtain ⟨rb, sv, D, n, hT, _⟩ := H
  have := hp.length_le
  have := hT.len
  omega
theorem walk_bel {h m : Nat} {w W : World} {L : List ByteArray} {Bs : List (Nat × TypeId × Value)} (H : WalkB h m w W L Bs) : Below h w W := by
  obtain ⟨rb, sv, D, n, hT, _, _, hB, _⟩ := H
  exact hB
theorem walk_keeps {B m : Nat} {W W' : World} {L L' : List ByteArray} {rb : Option Nat} {sv : Value} {D : DataW Unit} {n : Nat} (hT : Tab W m L rb sv D n) (hm : m < B)
    (h1 : ∃ rb' sv' D' n', Tab W' m L' rb' sv' D' n' ∧ (rb' = rb ∨ ∃ g, rb' = some g ∧ W.heap.size ≤ g) ∧ Fr (Foot m rb) W W') : KeepsFrom B W W' := by
  obtain ⟨rb', sv', D', n', _, _, hF⟩ := h1
  refine ⟨hF.size, fun k o hk ho hc => ?_⟩
  rw [hF.block k (lt_of_block ho) (fun hf => ?_)]
  · exact ho
  · rcases hf with h | h | h
    · omega
    · subst h; rw [hT.cells] at ho; cases ho; cases hc
    · rcases hT.row.2 with ⟨h2, _⟩ | ⟨g, cap, cur, h1, h2, h3, r⟩
      · have := hT.blk; rw [h2] at this; rw [← this] at h; cases h
      · have := hT.blk; rw [h1] at this; rw [← this] at h; cases h
        rw [h3] at ho; cases ho; cases hc
theorem walk_inc {h m Z was i : Nat} {w W : World} {lv : Int} {L : List ByteArray} (H : WalkB h m w W L (walkBs h lv Z was i)) (hZ : h + 5 ≤ Z) : WalkB h m w (W.setCell ⟨Z + 1, 0, none⟩ (.int .i64 ((i : Int) + 1))) L (walkBs h lv Z was (i + 1)) := by
  refine H.set (B := Z + 1) (t := 3) (v := .int .i64 i) (by simp [walkBs, base3]) _ (fun p hp => ?_)
  simp [walkBs, base3] at hp ⊢
  rcases hp with rfl | rfl | rfl | rfl | rfl | rfl
  · exact .inr ⟨by simp, by show h ≠ Z + 1; omega⟩
  · exact .inr ⟨by simp, by show h + 1 ≠ Z + 1; omega⟩
  · exact .inr ⟨by simp, by show h + 4 ≠ Z + 1; omega⟩
  · exact .inr ⟨by simp, by show Z ≠ Z + 1; omega⟩
  · exact .inl rfl
  · exact .inr ⟨by simp, by show Z + 1 + 1 ≠ Z + 1; omega⟩
theorem walk_sees {h Z was i : Nat} {w W : World} {lv : Int} {P L : List ByteArray} (H : WalkB h (h + 2) w W L (walkBs h lv Z was i)) (hp : P <+: L) : Sees (h + 2) (Z + 1 + 1) P W := by
  have hb := (H.box (p := (Z + 1 + 1, 23, .pointer (some ⟨h + 3, 0, none⟩))) (by simp [walkBs, base3])).cell
  obtain ⟨rb, sv, D, n, hT, _⟩ := H
  exact (hT.sees hb).less hp

theorem walk_stops {h m Bt : Nat} {w W : World} {L : List ByteArray} {Bs : List (Nat × TypeId × Value)} (H : WalkB h m w W L Bs) (hb : (Bt, 23, .pointer (some ⟨m + 1, 0, none⟩)) ∈ Bs) :
    SeqStopsK Fence.wide 1 Try.prog 22 #[.pointer (some ⟨Bt, 0, none⟩)] (fun x : Fin L.length => #[Value.int .i64 (x.1 : Nat), .string (nth L x.1)]) (fun W W' => Sees m Bt L W → Sees m Bt L W')
      (fun ys => ys = List.finRange L.length) (fun pre => pre <+: List.finRange L.length) L.length W := by
  have hB := H.box hb
  obtain ⟨rb, sv, D, n, hT, _⟩ := H
  exact all_stops W hT hB.cell hB.lt

end Go.Proofs.Ytpeacdghphnmbaa
