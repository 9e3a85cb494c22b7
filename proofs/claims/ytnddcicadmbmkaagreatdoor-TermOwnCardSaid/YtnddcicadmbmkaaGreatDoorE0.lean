/- What put does at a node: the load, the lookup, the new element, the store behind it. -/
import Derived.Test.YtnddcicadmbmkaaGreatDoorD9
import Derived.Test.YtnddcicadmbmkaaGreatDoorD10
import Derived.Great.BuildSlice
import Derived.Deep.AppendLies
namespace Go.Proofs.YtnddcicadmbmkaaGreatDoor
open Go.RowKit Go.Maps

theorem load77 {W : World} {b : Nat} {s : ByteArray} {n : Int} {l : List (Int × Int)} {t : TypeId} {z : Nat × Nat} (h : W.heap[b]? = some (.cells (ndP s n l) t z)) :
    (Instr.loadAt 77 (.pointer (some ⟨b, 0, none⟩))).run Tryz.prog W = .ok (.agg (ndP s n l)) W := by
  have := run_loadAt_mid (P := Tryz.prog) W b 0 77 (ndP s n l).toList _ (range_of h) Tryz.underlying77 rfl (by rw [Array.length_toList, ndP_size]; exact size77)
  simpa using this
theorem zero3' (w : World) : (zeroValue 3).run Tryz.prog w = .ok (.int .i64 0) w := by kernel_rfl
theorem look77 {w : World} {m : Nat} {L : List ByteArray} {Ns : List Nd} {rb nb : Option Nat} {sv nv : Value} {D D' : DataW Unit} {n n' : Nat} (h : Sto w m L Ns rb nb sv nv D D' n n') {q : Nd} (hq : NdOk q) :
    (Instr.lookup 55 (.map (some (m + 2))) (.agg (ndC q)) true).run Tryz.prog w = .ok (.tuple #[.int .i64 (nnum Ns q), .bool (nhas Ns q)]) w := by
  obtain ⟨v, ps, hrun, hv⟩ := h.map.look_ok law77 Tryz.underlying55 (zero3' w) (plainElem_int Tryz.underlying3 (by decide)) (nk_eq hq)
  obtain ⟨c, rfl, hc, _⟩ := plainElem_int_inv Tryz.underlying3 hv
  obtain ⟨h1, h2⟩ := h.is.2 q hq
  rw [h2] at hc
  have hc' := congrArg Prod.fst hc
  simp at hc'
  rw [hrun, h1, ← hc']
theorem fold_set : ∀ (vs : List Value) (k : Nat) (cs : Array Value), k + vs.length = cs.size →
    ((vs.zipIdx k).foldl (fun (cs : Array Value) (x : Value × Nat) => cs.setIfInBounds (0 + x.2) x.1) cs).toList = cs.toList.take k ++ vs
  | [], k, cs, h => by simp at h ⊢; rw [List.take_of_length_le (by simp; omega)]
  | v :: r, k, cs, h => by
    simp only [List.zipIdx_cons, List.foldl_cons]
    simp only [List.length_cons] at h
    rw [fold_set r (k + 1) _ (by simp; omega)]
    rw [Nat.zero_add, Array.toList_setIfInBounds]
    rw [List.take_succ_eq_append_getElem (by simp; omega), List.take_set_of_le (Nat.le_refl _)]
    simp
theorem fill_one (cs z : Array Value) (h : z.size = cs.size) : Instr.fill (fun i => some (i * cs.size, cs.size)) z [(0, .agg cs)] = some cs := by
  unfold Instr.fill Instr.fill
  simp only [Value.cells, Nat.zero_mul, h]
  rw [if_neg (by simp)]
  congr 1
  apply Array.toList_inj.1
  have := fold_set cs.toList 0 z (by simp [h])
  simp only [List.take_zero, List.nil_append] at this
  rw [← this, ← Array.foldl_toList, Array.toList_zipIdx]
theorem build77 (q : Nd) (w : World) : (Instr.buildSlice 54 1 #[(0, .agg (ndC q))]).run Tryz.prog w = .ok (.slice (some ⟨w.heap.size, 0, none⟩) 1 1) (w.alloc (.cells (ndC q) 77)) := by
  obtain ⟨i, hi, hz⟩ : ∃ i, Tryz.prog.info? 77 = some i ∧ i.size = 18 ∧ i.zero = some (.agg (ndP ⟨#[]⟩ 0 [])) := by
    have h : (Tryz.prog.info? 77).map (fun i => (i.size, i.zero)) = some (18, some (.agg (ndP ⟨#[]⟩ 0 []))) := by kernel_rfl
    cases hi : Tryz.prog.info? 77 with
    | none => rw [hi] at h; cases h
    | some i => rw [hi] at h; simp at h; exact ⟨i, rfl, h⟩
  refine run_buildSlice w 54 77 1 _ (ndC q) i _ Tryz.underlying54 hi hz.2 (by rw [hz.1]; omega) (by rw [hz.1]; omega) ?_
  rw [hz.1]
  exact fill_one (ndC q) _ (by simp [ndC, nodeC])
theorem below_sets {B b : Nat} {a : World} (hb : B ≤ b) : ∀ (vs : List Value) (o : Nat) (w : World), Below B a w → Below B a (w.setCells b o vs)
  | [], _, _, h => h
  | v :: r, o, w, h => by
    unfold World.setCells
    exact below_sets hb r (o + 1) _ (h.setCell (p := ⟨b, o, none⟩) hb v)
theorem new_store (w : World) (z cs : Array Value) (t : TypeId) (h : z.size = cs.size) :
    ((w.alloc (.cells z t)).setCells w.heap.size 0 cs.toList).heap[w.heap.size]? = some (.cells cs t (0, 0)) ∧ Below w.heap.size w ((w.alloc (.cells z t)).setCells w.heap.size 0 cs.toList) := by
  have hn := heap_alloc_new w (.cells z t)
  refine ⟨?_, ?_⟩
  · have := store_all (b := w.heap.size) (old := z) (t := t) cs.toList 0 _ [] hn (by simp [h]) (by simp) rfl
    simpa using this
  · exact below_sets (Nat.le_refl _) _ _ _ ((Below.refl _ _).alloc (Nat.le_refl _) _)
theorem there_new (w : World) (z : Array Value) (t : TypeId) : (w.alloc (.cells z t)).there w.heap.size 0 z.size := there_of (heap_alloc_new w (.cells z t))
theorem cells3_set {w : World} {b : Nat} {x0 x1 x2 u : Value} {t : TypeId} (h : w.heap[b]? = some (.cells #[x0, x1, x2] t (0, 0))) : (w.setCell ⟨b, 1, none⟩ u).heap[b]? = some (.cells #[x0, u, x2] t (0, 0)) := by
  rw [set_block h]; rfl
theorem Sto.node_put {w w1 w2 : World} {m : Nat} {L : List ByteArray} {Ns : List Nd} {rb nb : Option Nat} {sv nv nv2 : Value} {D D' : DataW Unit} {n n' H : Nat} {o : Obj} {q : Nd} (h : Sto w m L Ns rb nb sv nv D D' n n') (hq : NdOk q) (hin : q ∉ Ns) (hfull : Ns.length < 16384)
    (hown1 : w1.ownsMap Tryz.prog 77 (plainElem (H := Unit) Tryz.prog 3) (m + 2) (n' + 1) (D'.put (nk q) (.lit (.int .i64 Ns.length)))) (hg1 : w.grownBy w1 (some (m + 2)))
    (hown2 : w2.ownsRow (m + 4) 77 18 nv2 (Ns.length + 1) (Ns.flatMap (fun n => (ndC n).toList) ++ (ndC q).toList)) (hg2 : (w1.drew.alloc o).grownBy w2 nv.ownBlock) (hat : nv.ownBlock = nv2.ownBlock ∨ nv2.ownBlock = some H) (hH : w.heap.size ≤ H) :
    Sto (w2.setCell ⟨m + 3, 1, none⟩ nv2) m L (Ns ++ [q]) rb nv2.ownBlock sv nv2 D (D'.put (nk q) (.lit (.int .i64 Ns.length))) n (n' + 1) ∧ Later w.heap.size nb nv2.ownBlock ∧ Sy.Fr (SFoot m rb nb) w (w2.setCell ⟨m + 3, 1, none⟩ nv2) := by
  have hap := h.apart
  have hs1 := hg1.size
  have hs2 := hg2.size
  simp at hs2
  have hms := heap_lt h.cells
  have hnb : ∀ k, nv.ownBlock = some k → m + 4 ≤ k ∧ k < w.heap.size := fun k hk => h.row.lt k hk
  have hF : Sy.Fr (fun k => k = m + 2 ∨ k = m + 3 ∨ nb = some k) w (w2.setCell ⟨m + 3, 1, none⟩ nv2) := by
    refine ((((Sy.Fr.of_grown hg1 ?_).trans (Sy.Fr.of_below (Below.refl _ _).drew)).trans (Sy.Fr.of_alloc _ _ _)).trans (Sy.Fr.of_grown hg2 ?_)).trans (Sy.Fr.of_setCell _ (.inr (.inl rfl)) _)
    · intro k hk; exact .inl (Option.some.inj hk).symm
    · intro k hk; exact .inr (.inr (h.blk ▸ hk))
  have g2 : ∀ k, k < m + 4 → w2.heap[k]? = w1.heap[k]? := fun k hk => by
    rw [hg2.block k (by simp; omega) (fun e => by have := hnb k e.symm; omega), Below.heap_alloc _ _ _ (by simp; omega)]; rfl
  have gs : ∀ k, k ≠ m + 3 → (w2.setCell ⟨m + 3, 1, none⟩ nv2).heap[k]? = w2.heap[k]? := fun k hk => Below.heap_setCell _ _ _ _ hk
  refine ⟨⟨?_, ?_, ?_, ?_, NMap.put h.is hq hin, ?_, rfl, ?_, ?_⟩, ?_, hF.mono (fun k _ hk => ?_)⟩
  · rw [cells3_set ((g2 (m + 3) (by omega)).trans ((hg1.block (m + 3) hms (by simp)).trans h.cells))]
  · exact h.syms.kept hF (fun k hk => by
      rcases hk with hk | hk | hk
      · rintro (e | e | e)
        · omega
        · omega
        · have := hnb k (by rw [h.blk]; exact e); omega
      · rintro (e | e | e)
        · omega
        · omega
        · have := hnb k (by rw [h.blk]; exact e); omega
      · have hk' := hap k hk
        rintro (e | e | e)
        · omega
        · omega
        · exact hk'.2.2 e)
  · obtain ⟨es, clock, h1, r⟩ := hown1
    exact ⟨es, clock, by rw [gs (m + 2) (by omega), g2 (m + 2) (by omega)]; exact h1, r⟩
  · have := h.few; simp; exact this
  · rw [flat_snoc]
    have := ownsRow_setCell_other hown2 (a := ⟨m + 3, 1, none⟩) (fun e => by have h3 : m + 4 ≤ m + 3 := (hown2.lt _ e).1; omega) nv2
    simpa using this
  · simp; omega
  · intro x hx
    rcases List.mem_append.1 hx with hx | hx
    · exact h.ok x hx
    · simp at hx; subst hx; exact hq
  · rcases hat with e | e
    · exact .inl (by rw [← e, h.blk])
    · exact .inr ⟨_, e, hH⟩
  · rcases hk with hk | hk | hk
    · exact .inr (.inr (.inl hk))
    · exact .inr (.inr (.inr (.inl hk)))
    · exact .inr (.inr (.inr (.inr (.inr hk))))
theorem ndP_lit (s : ByteArray) (n : Int) (q : List (Int × Int)) : ∃ a0 b0 a1 b1 a2 b2 a3 b3 a4 b4 a5 b5 a6 b6 a7 b7 : Int, ndP s n q = #[.string s, .int .i64 n, .int .i64 a0, .int .i64 b0, .int .i64 a1, .int .i64 b1, .int .i64 a2, .int .i64 b2, .int .i64 a3, .int .i64 b3, .int .i64 a4, .int .i64 b4, .int .i64 a5, .int .i64 b5, .int .i64 a6, .int .i64 b6, .int .i64 a7, .int .i64 b7] := ⟨_, _, _, _, _, _, _, _, _, _, _, _, _, _, _, _, rfl⟩
theorem block18 {w : World} {b : Nat} {x0 x1 x2 x3 x4 x5 x6 x7 x8 x9 x10 x11 x12 x13 x14 x15 x16 x17 : Value} {t : TypeId} {z : Nat × Nat} (h : w.heap[b]? = some (.cells #[x0, x1, x2, x3, x4, x5, x6, x7, x8, x9, x10, x11, x12, x13, x14, x15, x16, x17] t z)) : w.cell? ⟨b, 0, none⟩ = some x0 ∧ w.cell? ⟨b, 1, none⟩ = some x1 ∧ w.cell? ⟨b, 2, none⟩ = some x2 ∧ w.cell? ⟨b, 3, none⟩ = some x3 ∧ w.cell? ⟨b, 4, none⟩ = some x4 ∧ w.cell? ⟨b, 5, none⟩ = some x5 ∧ w.cell? ⟨b, 6, none⟩ = some x6 ∧ w.cell? ⟨b, 7, none⟩ = some x7 ∧ w.cell? ⟨b, 8, none⟩ = some x8 ∧ w.cell? ⟨b, 9, none⟩ = some x9 ∧ w.cell? ⟨b, 10, none⟩ = some x10 ∧ w.cell? ⟨b, 11, none⟩ = some x11 ∧ w.cell? ⟨b, 12, none⟩ = some x12 ∧ w.cell? ⟨b, 13, none⟩ = some x13 ∧ w.cell? ⟨b, 14, none⟩ = some x14 ∧ w.cell? ⟨b, 15, none⟩ = some x15 ∧ w.cell? ⟨b, 16, none⟩ = some x16 ∧ w.cell? ⟨b, 17, none⟩ = some x17 := by
  simp [World.cell?, h]
theorem build77' {s : ByteArray} {n : Nat} {q : List (Int × Int)} {cs : List Value} (h : ndP s n q = cs.toArray) (hl : q.length = n) (w : World) : (Instr.buildSlice 54 1 #[(0, .agg cs.toArray)]).run Tryz.prog w = .ok (.slice (some ⟨w.heap.size, 0, none⟩) 1 1) (w.alloc (.cells cs.toArray 77)) := by
  have := build77 (s, q) w
  rw [← ndP_all, hl, h] at this
  exact this
theorem run_value {x : Sem Value} {w w' : World} {v : Value} (h : x.run Tryz.prog w = .ok v w') : (x >>= fun v => pure (Next.value v)).run Tryz.prog w = .ok (.value v) w' := by
  simp only [Sem.run_bind, h, Result.andThen_ok, Sem.run_pure]
theorem step_run {ops : Array Oper} {o : Oper} {a : Act} {w _w' : World} {K : Act → World → Prop} {Q : Exit → Act → World → Prop} {E : Prop} (hg : o.guard = none) (v : Value) (w'' : World) (hr : (execOp a.eval o).run Tryz.prog w = .ok (.value v) w'') (h : K (a.put o.dst v) w'') :
    if Region.wanted o (yielded ops a.tmps) = true then Oper.wp Tryz.prog o a w K Q else E := by
  rw [if_pos (by simp [Region.wanted, hg])]
  unfold Oper.wp
  rw [hr]
  simpa [Oper.upon] using h
theorem step_load {ops : Array Oper} {o : Oper} {a : Act} {w : World} {K : Act → World → Prop} {Q : Exit → Act → World → Prop} {E : Prop} (hg : o.guard = none) (ty : TypeId) (x : Operand) (ho : o.op = .load ty x) (p v : Value) (hx : a.eval x = p) (hr : (Instr.loadAt ty p).run Tryz.prog w = .ok v w) (h : K (a.put o.dst v) w) :
    if Region.wanted o (yielded ops a.tmps) = true then Oper.wp Tryz.prog o a w K Q else E := by
  refine step_run (_w' := w) hg v w ?_ h
  unfold execOp
  simp only [ho, hx, Sem.run_bind, hr, Result.andThen_ok, Sem.run_pure]
theorem step_build {ops : Array Oper} {o : Oper} {a : Act} {w w2 : World} {K : Act → World → Prop} {Q : Exit → Act → World → Prop} {E : Prop} (hg : o.guard = none) (t : TypeId) (n : Nat) (x : Operand) (ho : o.op = .buildSlice t n #[(0, x)]) (xv v : Value) (hx : a.eval x = xv) (hr : (Instr.buildSlice t n #[(0, xv)]).run Tryz.prog w = .ok v w2) (h : K (a.put o.dst v) w2) :
    if Region.wanted o (yielded ops a.tmps) = true then Oper.wp Tryz.prog o a w K Q else E := by
  refine step_run (_w' := w) hg v w2 ?_ h
  unfold execOp
  simp only [ho, List.map_toArray, List.map_cons, List.map_nil, hx, Sem.run_bind, hr, Result.andThen_ok, Sem.run_pure]
theorem load54 {w : World} {a : Addr} {v : Value} (h : w.cell? a = some v) : (Instr.loadAt 54 (.pointer (some a))).run Tryz.prog w = .ok v w := by
  go_simp
theorem info77 : ∃ i, Tryz.prog.info? 77 = some i ∧ i.zero = some (.agg (ndP ⟨#[]⟩ 0 [])) ∧ i.size = 18 ∧ i.bytes = 152 := by
  have h : (Tryz.prog.info? 77).map (fun i => (i.zero, i.size, i.bytes)) = some (some (.agg (ndP ⟨#[]⟩ 0 [])), 18, 152) := by kernel_rfl
  cases hi : Tryz.prog.info? 77 with
  | none => rw [hi] at h; cases h
  | some i => rw [hi] at h; simp at h; exact ⟨i, rfl, h⟩
theorem own_ne4 {v : Value} {m : Nat} (h : ∀ k, v.ownBlock = some k → m + 4 ≤ k) : v.ownBlock = none ∨ v.ownBlock ≠ some (m + 2) := .inr (fun e => by have := h _ e; omega)
theorem hg3b {w w3 : World} {m : Nat} {o : Obj} (h : w.grownBy w3 (some (m + 2))) (hc : w.heap[m + 3]? = some o) : w3.drew.heap[m + 3]? = some o := (h.block (m + 3) (heap_lt hc) (by simp)).trans hc
theorem ok_parts {v : V} (h : v.Ok) : OkL v.ps := by cases v; unfold V.Ok at h; exact h.2.2.2.2
theorem mayVs_mem : ∀ {l : List V} {d : Int}, mayVs l d = true → ∀ x ∈ l, mayV x d = true
  | [], _, _, x, hx => by simp at hx
  | y :: r, d, h, x, hx => by
    unfold mayVs at h
    simp only [Bool.and_eq_true] at h
    rcases List.mem_cons.1 hx with rfl | hx
    · exact h.1
    · exact mayVs_mem h.2 x hx
theorem fold_len (g : V → St → Int × Int × St) : ∀ (l : List V) (st : St), (foldVs g l st).2.1 = 0 → (foldVs g l st).1.length = l.length
  | [], _, _ => rfl
  | x :: r, st, h => by
    unfold foldVs at h ⊢
    by_cases e : (g x st).2.1 = 0
    · rw [if_neg (by simp [e])] at h ⊢
      simp [fold_len g r _ h]
    · rw [if_pos e] at h
      exact absurd h e
end Go.Proofs.YtnddcicadmbmkaaGreatDoor
