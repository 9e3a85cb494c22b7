/- A value that comes in: what its datum says of it, opened. -/
import Derived.Test.YtnddcicadmbmkaaGreatDoorD11
import Derived.Deep.MidRow
import Derived.Test.YtnddcicadmbmkaaGreatDoorD1
namespace Go.Proofs.YtnddcicadmbmkaaGreatDoor
open Go.RowKit

theorem cells24 : Tryz.prog.cellsOf 24 = 4 := by kernel_rfl
theorem cells22 : Tryz.prog.cellsOf 22 = 1 := by kernel_rfl
theorem bytes24 : Tryz.prog.bytesOf 24 = 56 := by kernel_rfl

theorem mapM_at {α β : Type} {f : α → Option β} : ∀ {xs : List α} {l : List β}, xs.mapM f = some l → l.length = xs.length ∧ ∀ (i : Nat) (x : α), xs[i]? = some x → f x = l[i]?
  | [], l, h => by
    simp at h
    subst h
    exact ⟨rfl, fun i x hx => by simp at hx⟩
  | x :: r, l, h => by
    rw [List.mapM_cons] at h
    cases hx : f x with
    | none => rw [hx] at h; simp at h
    | some y =>
      cases hr : r.mapM f with
      | none => rw [hx, hr] at h; simp at h
      | some m =>
        rw [hx, hr] at h
        simp at h
        subst h
        obtain ⟨h1, h2⟩ := mapM_at hr
        refine ⟨by simp [h1], fun i z hz => ?_⟩
        cases i with
        | zero => simp at hz; subst hz; simpa using hx
        | succ i => simp at hz ⊢; exact h2 i z hz

set_option maxRecDepth 100000 in
theorem trod_int {H : Type} {enc : TypeId × Value → H} {W : World} {sp : Nat → Bool} : ∀ {f : Nat} {c : Value} {x : DataW H × List MemPlace}, DataW.trod enc Tryz.prog W 0 sp true f 3 [c] = some x → ∃ n, c = .int .i64 n ∧ (Lit.int .i64 n).wf = true ∧ x.1 = .lit (.int .i64 n)
  | 0, _, _, h => by simp [DataW.trod] at h
  | f + 1, c, x, h => by
    unfold DataW.trod at h
    rw [Tryz.underlying3] at h
    cases c <;> simp at h
    obtain ⟨⟨rfl, h2⟩, rfl⟩ := h
    exact ⟨_, rfl, by simpa using h2, rfl⟩
set_option maxRecDepth 100000 in
theorem trod_str {H : Type} {enc : TypeId × Value → H} {W : World} {sp : Nat → Bool} : ∀ {f : Nat} {c : Value} {x : DataW H × List MemPlace}, DataW.trod enc Tryz.prog W 0 sp true f 9 [c] = some x → ∃ s : ByteArray, c = .string s ∧ x.1 = .lit (.string s.data.toList)
  | 0, _, _, h => by simp [DataW.trod] at h
  | f + 1, c, x, h => by
    unfold DataW.trod at h
    rw [Tryz.underlying9] at h
    cases c <;> simp at h
    obtain ⟨h1, rfl⟩ := h
    exact ⟨_, rfl, rfl⟩

theorem list_of {α : Type} [Inhabited α] {Q : Nat → α → Prop} : ∀ (n : Nat), (∀ i, i < n → ∃ v, Q i v) → ∃ l : List α, l.length = n ∧ ∀ i (h : i < l.length), Q i l[i]
  | 0, _ => ⟨[], rfl, fun i h => by simp at h⟩
  | n + 1, h => by
    obtain ⟨l, h1, h2⟩ := list_of n (fun i hi => h i (by omega))
    obtain ⟨v, hv⟩ := h n (by omega)
    refine ⟨l ++ [v], by simp [h1], fun i hi => ?_⟩
    by_cases e : i < l.length
    · rw [List.getElem_append_left e]; exact h2 i e
    · have : i = l.length := by simp at hi; omega
      subst this
      simpa [h1] using hv
instance : Inhabited V := ⟨V.none⟩
theorem elts_of {P : Nat → Prop} {w : World} {b : Nat} : ∀ {l : List V} {off : Nat}, (∀ i (h : i < l.length), ∃ sl, w.cell? ⟨b, off + i * 4, none⟩ = some (.int .i64 l[i].k) ∧ w.cell? ⟨b, off + i * 4 + 1, none⟩ = some (.int .i64 l[i].n) ∧ w.cell? ⟨b, off + i * 4 + 2, none⟩ = some (.string l[i].s) ∧ w.cell? ⟨b, off + i * 4 + 3, none⟩ = some sl ∧ SubP P w l[i] sl) → EltsP P w b off l
  | [], _, _ => by unfold EltsP; trivial
  | x :: r, off, h => by
    unfold EltsP
    refine ⟨by have := h 0 (by simp); simp only [Nat.zero_mul, Nat.add_zero] at this; exact this, elts_of (fun i hi => ?_)⟩
    have := h (i + 1) (by simp; omega)
    rw [show off + (i + 1) * 4 = off + 4 + i * 4 by omega] at this
    exact this
theorem okL_of : ∀ {l : List V}, (∀ i (h : i < l.length), (l[i]).Ok) → OkL l
  | [], _ => by unfold OkL; trivial
  | x :: r, h => by
    unfold OkL
    exact ⟨h 0 (by simp), okL_of (fun i hi => h (i + 1) (by simp; omega))⟩
theorem weightsAll_mem {H : Type} {P : Program} {e : TypeId} {n : Nat} : ∀ {l : List (DataW H)}, (DataW.weightsAll P e l).all (· ≤ n) = true → ∀ d ∈ l, (d.weights P e).all (· ≤ n) = true
  | [], _, d, hd => by simp at hd
  | x :: r, h, d, hd => by
    unfold DataW.weightsAll at h
    rw [List.all_append, Bool.and_eq_true] at h
    rcases List.mem_cons.1 hd with rfl | hd
    · exact h.1
    · exact weightsAll_mem h.2 d hd

theorem cells_four {W : World} {b off i : Nat} {cs : List Value} (h : W.cells? 0 ((⟨b, off, none⟩ : Addr).add (i * 4)) 4 = some cs) : ∃ c0 c1 c2 c3, cs = [c0, c1, c2, c3] ∧ W.cell? ⟨b, off + i * 4, none⟩ = some c0 ∧ W.cell? ⟨b, off + i * 4 + 1, none⟩ = some c1 ∧ W.cell? ⟨b, off + i * 4 + 2, none⟩ = some c2 ∧ W.cell? ⟨b, off + i * 4 + 3, none⟩ = some c3 := by
  unfold World.cells? at h
  rw [if_pos (Nat.zero_le _)] at h
  obtain ⟨h1, h2⟩ := mapM_at h
  have ha : (⟨b, off, none⟩ : Addr).add (i * 4) = ⟨b, off + i * 4, none⟩ := Addr.add_mid ..
  rw [ha] at h2
  match cs, h1 with
  | [c0, c1, c2, c3], _ =>
    refine ⟨c0, c1, c2, c3, rfl, ?_, ?_, ?_, ?_⟩
    · simpa [Addr.add_mid] using h2 0 0 (by rfl)
    · simpa [Addr.add_mid] using h2 1 1 (by rfl)
    · simpa [Addr.add_mid] using h2 2 2 (by rfl)
    · simpa [Addr.add_mid] using h2 3 3 (by rfl)
theorem cell_block {W : World} {b o : Nat} {v : Value} (h : W.cell? ⟨b, o, none⟩ = some v) : b < W.heap.size := by
  rcases Nat.lt_or_ge b W.heap.size with hlt | hge
  · exact hlt
  · simp [World.cell?, Array.getElem?_eq_none hge] at h

set_option maxRecDepth 100000 in
theorem weights24 {H : Type} {x0 x1 x2 x3 : DataW H} {n : Nat} (h : ((DataW.agg [x0, x1, x2, x3]).weights Tryz.prog 24).all (· ≤ n) = true) : (x2.weights Tryz.prog 9).all (· ≤ n) = true ∧ (x3.weights Tryz.prog 22).all (· ≤ n) = true := by
  unfold DataW.weights at h
  rw [Tryz.underlying24] at h
  simp only [List.map_cons, List.map_nil, DataW.weightsEach, List.all_append, Bool.and_eq_true] at h
  exact ⟨h.2.2.1, h.2.2.2.1⟩
set_option maxRecDepth 100000 in
theorem weights22 {H : Type} {es sp : List (DataW H)} {n : Nat} (h : ((DataW.slice es sp).weights Tryz.prog 22).all (· ≤ n) = true) : es.length ≤ n ∧ ∀ d ∈ es, (d.weights Tryz.prog 24).all (· ≤ n) = true := by
  unfold DataW.weights at h
  rw [Tryz.underlying22] at h
  simp only [List.all_cons, List.all_append, Bool.and_eq_true, bytes24, decide_eq_true_eq] at h
  exact ⟨by omega, weightsAll_mem h.2.1⟩
set_option maxRecDepth 100000 in
theorem open_args {H : Type} {enc : TypeId × Value → H} {W : World} {f : Nat} {c : Value} {x : DataW H × List MemPlace}
    (ih : ∀ m, m ≤ f → ∀ {cs : List Value} {x : DataW H × List MemPlace}, DataW.trod enc Tryz.prog W 0 (fun _ => true) true m 24 cs = some x → (x.1.weights Tryz.prog 24).all (· ≤ 140737488351232) = true →
      ∃ v : V, v.Ok ∧ ∃ sl, cs = [.int .i64 v.k, .int .i64 v.n, .string v.s, sl] ∧ SubP (fun b => b < W.heap.size) W v sl)
    (h : DataW.trod enc Tryz.prog W 0 (fun _ => true) true f 22 [c] = some x) (hw : (x.1.weights Tryz.prog 22).all (· ≤ 140737488351232) = true) :
    ∃ ps : List V, ps.length ≤ 140737488351232 ∧ OkL ps ∧ ∃ a cap, c = .slice a ps.length cap ∧ ps.length ≤ cap ∧ (ps = [] ∨ ∃ b off, a = some ⟨b, off, none⟩ ∧ b < W.heap.size ∧ EltsP (fun b => b < W.heap.size) W b off ps) := by
  cases f with
  | zero => simp [DataW.trod] at h
  | succ f =>
    unfold DataW.trod at h
    rw [Tryz.underlying22] at h
    match c, h with
    | .slice none 0 0, h => exact ⟨[], by simp, by unfold OkL; trivial, none, 0, rfl, Nat.le_refl _, .inl rfl⟩
    | .slice (some a) len cap, h =>
      simp only [cells24] at h
      by_cases hc : 0 ≤ a.block ∧ len ≤ cap ∧ cap ≤ maxLen
      · rw [if_pos hc] at h
        cases he : (List.range len).mapM (fun i => (W.cells? 0 (a.add (i * 4)) 4).bind (DataW.trod enc Tryz.prog W 0 (fun _ => true) true f 24)) with
        | none => rw [he] at h; simp at h
        | some es =>
          rw [he] at h
          simp only [Option.bind_some, if_true] at h
          cases hr : (List.range (cap - len)).mapM (fun j => (W.cells? 0 (a.add ((len + j) * 4)) 4).bind (DataW.trod enc Tryz.prog W 0 (fun _ => true) true f 24)) with
          | none => rw [hr] at h; simp at h
          | some rs =>
            rw [hr] at h
            simp only [Option.map_some, Option.some.injEq] at h
            subst h
            obtain ⟨hel, hew⟩ := weights22 hw
            obtain ⟨hlen, hat⟩ := mapM_at he
            rw [List.length_range] at hlen
            simp only [List.length_map] at hel
            by_cases h0 : len = 0
            · subst h0
              exact ⟨[], by simp, by unfold OkL; trivial, some a, cap, rfl, Nat.zero_le _, .inl rfl⟩
            · have hone : ∀ i, i < len → ∃ cs y, W.cells? 0 (a.add (i * 4)) 4 = some cs ∧ DataW.trod enc Tryz.prog W 0 (fun _ => true) true f 24 cs = some y ∧ es[i]? = some y := fun i hi => by
                have h1 := hat i i (by rw [List.getElem?_range hi])
                rw [List.getElem?_eq_getElem (by omega)] at h1
                cases hcs : W.cells? 0 (a.add (i * 4)) 4 with
                | none => rw [hcs] at h1; cases h1
                | some cs => rw [hcs] at h1; exact ⟨cs, _, rfl, h1, List.getElem?_eq_getElem (by omega)⟩
              obtain ⟨b, off, sp⟩ := a
              have hsp : sp = none := by
                obtain ⟨cs, _, h1, _⟩ := hone 0 (by omega)
                unfold World.cells? at h1
                rw [if_pos (Nat.zero_le _)] at h1
                obtain ⟨hl4, h2⟩ := mapM_at h1
                have h3 := h2 0 0 (by rfl)
                rw [List.getElem?_eq_getElem (by rw [hl4]; simp)] at h3
                cases sp with
                | none => rfl
                | some q =>
                  exfalso
                  simp [Addr.add, World.cell?] at h3
                  split at h3 <;> cases h3
              subst hsp
              obtain ⟨ps, hpl, hps⟩ := list_of (α := V) (Q := fun i v => v.Ok ∧ ∃ sl, W.cell? ⟨b, off + i * 4, none⟩ = some (.int .i64 v.k) ∧ W.cell? ⟨b, off + i * 4 + 1, none⟩ = some (.int .i64 v.n) ∧ W.cell? ⟨b, off + i * 4 + 2, none⟩ = some (.string v.s) ∧ W.cell? ⟨b, off + i * 4 + 3, none⟩ = some sl ∧ SubP (fun b => b < W.heap.size) W v sl) len (fun i hi => by
                obtain ⟨cs, y, h1, h2, h3⟩ := hone i hi
                obtain ⟨c0, c1, c2, c3, rfl, g0, g1, g2, g3⟩ := cells_four h1
                obtain ⟨v, hv, sl, hcs, hsub⟩ := ih f (by omega) h2 (hew y.1 (List.mem_map.2 ⟨y, List.mem_of_getElem? h3, rfl⟩))
                simp only [List.cons.injEq, and_true] at hcs
                obtain ⟨rfl, rfl, rfl, rfl⟩ := hcs
                exact ⟨v, hv, _, g0, g1, g2, g3, hsub⟩)
              subst hpl
              refine ⟨ps, by omega, okL_of (fun i hi => (hps i hi).1), some ⟨b, off, none⟩, cap, rfl, hc.2.1, .inr ⟨b, off, rfl, ?_, elts_of (fun i hi => (hps i hi).2)⟩⟩
              obtain ⟨_, sl, g0, _⟩ := hps 0 (by omega)
              exact cell_block g0
      · rw [if_neg hc] at h; cases h
set_option maxRecDepth 100000 in
theorem open_val {H : Type} {enc : TypeId × Value → H} {W : World} : ∀ (f : Nat) {cs : List Value} {x : DataW H × List MemPlace}, DataW.trod enc Tryz.prog W 0 (fun _ => true) true f 24 cs = some x → (x.1.weights Tryz.prog 24).all (· ≤ 140737488351232) = true →
    ∃ v : V, v.Ok ∧ ∃ sl, cs = [.int .i64 v.k, .int .i64 v.n, .string v.s, sl] ∧ SubP (fun b => b < W.heap.size) W v sl := by
  intro f
  induction f using Nat.strongRecOn with
  | _ f ih =>
    intro cs x h hw
    cases f with
    | zero => simp [DataW.trod] at h
    | succ f =>
      unfold DataW.trod at h
      rw [Tryz.underlying24] at h
      simp only [cells24] at h
      by_cases hl : cs.length = 4
      · rw [if_pos hl] at h
        match cs, hl with
        | [c0, c1, c2, c3], _ =>
          simp only [List.mapM_cons, List.mapM_nil, cells3, cells9, cells22, List.drop_zero, List.drop_succ_cons, List.take_succ_cons, List.take_zero] at h
          cases h0 : DataW.trod enc Tryz.prog W 0 (fun x => true) true f 3 [c0] with
          | none => rw [h0] at h; simp at h
          | some x0 =>
          cases h1 : DataW.trod enc Tryz.prog W 0 (fun x => true) true f 3 [c1] with
          | none => rw [h0, h1] at h; simp at h
          | some x1 =>
          cases h2 : DataW.trod enc Tryz.prog W 0 (fun x => true) true f 9 [c2] with
          | none => rw [h0, h1, h2] at h; simp at h
          | some x2 =>
          cases h3 : DataW.trod enc Tryz.prog W 0 (fun x => true) true f 22 [c3] with
          | none => rw [h0, h1, h2, h3] at h; simp at h
          | some x3 =>
          rw [h0, h1, h2, h3] at h
          simp at h
          subst h
          obtain ⟨k, rfl, hk, e0⟩ := trod_int h0
          obtain ⟨n, rfl, hn, e1⟩ := trod_int h1
          obtain ⟨s, rfl, e2⟩ := trod_str h2
          obtain ⟨hw2, hw3⟩ := weights24 hw
          rw [e2] at hw2
          have hs : s.size ≤ 140737488351232 := by simpa [DataW.weights] using hw2
          obtain ⟨ps, hps, hok, hsub⟩ := open_args (fun m hm => ih m (by omega)) h3 hw3
          exact ⟨.mk k n s ps, by unfold V.Ok; exact ⟨hk, hn, hs, hps, hok⟩, c3, rfl, by unfold SubP; exact hsub⟩
      · rw [if_neg hl] at h; cases h
end Go.Proofs.YtnddcicadmbmkaaGreatDoor
