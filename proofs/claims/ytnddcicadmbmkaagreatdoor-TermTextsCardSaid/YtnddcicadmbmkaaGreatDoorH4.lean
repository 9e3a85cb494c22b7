/- A buffer of bytes that came of a string: its row is frozen at its end, behind its cells. -/
import Derived.Test.YtnddcicadmbmkaaGreatDoorH3
import Derived.Lib.FrozenHead
namespace Go.Proofs.YtnddcicadmbmkaaGreatDoor
open Go.RowKit

/-- nothing of a row of n cells is frozen -/
def Thaw (n : Nat) (fz : Nat × Nat) : Prop := ∀ i, i < n → (decide (fz.1 ≤ i) && decide (i < fz.2)) = false
theorem run_storeCells_thaw (P : Program) (g o : Nat) (t : TypeId) (fz : Nat × Nat) : ∀ (vs : List Value) (i : Nat) (cur : Array Value) (w : World), w.heap[g]? = some (.cells cur t fz) → Thaw cur.size fz → o + i + vs.length ≤ cur.size → (∀ v ∈ vs, v.oneCell' = true) →
    (storeCells ⟨g, o, none⟩ vs i).run P w = .ok () (w.setRow g (cur.toList.take (o + i) ++ vs ++ cur.toList.drop (o + i + vs.length)).toArray)
  | [], i, cur, w, hg, _, _, _ => by
    simp only [storeCells, List.append_nil, List.length_nil, Nat.add_zero, List.take_append_drop, Array.toArray_toList]
    rw [setRow_self w g cur t fz hg]
    rfl
  | v :: rest, i, cur, w, hg, hfz, hl, h1 => by
    have hi : o + i < cur.size := by simp at hl; omega
    have hadd : (⟨g, o, none⟩ : Addr).add i = ⟨g, o + i, none⟩ := by unfold Addr.add; split <;> simp_all
    have hcell : w.cell? ⟨g, o + i, none⟩ = some cur[o + i] := by simp [World.cell?, hg, hi]
    have hfro : w.frozen? ⟨g, o + i, none⟩ = false := by
      simp only [World.frozen?, hg]
      exact hfz _ hi
    have hst : (store ((⟨g, o, none⟩ : Addr).add i) v).run P w = .ok () (w.setRow g (cur.setIfInBounds (o + i) v)) := by
      rw [hadd, run_store P w _ v _ (h1 v (by simp)), hcell]
      simp [hfro, setCell_eq_setRow w g (o + i) cur t fz v hg]
    have ih := run_storeCells_thaw P g o t fz rest (i + 1) (cur.setIfInBounds (o + i) v) (w.setRow g (cur.setIfInBounds (o + i) v)) (setRow_heap w g cur _ t _ hg) (by simpa using hfz) (by simp at hl ⊢; omega) (fun x hx => h1 x (by simp [hx]))
    simp only [storeCells, Sem.run_bind, hst, Result.andThen_ok, ih, setRow_setRow]
    congr 3
    have e := list_seg_step cur.toList (o + i) v rest (by simp at hl ⊢; omega)
    simpa [Array.toList_setIfInBounds, Nat.add_assoc] using e

/-- v is a slice of the bytes l, in a row of the call's own, the row's cells all free -/
def BufE (B : Nat) (w : World) (v : Value) (l : List UInt8) : Prop := ∃ g cap cur fz, v = .slice (some ⟨g, 0, none⟩) l.length cap ∧ B ≤ g ∧ w.heap[g]? = some (.cells cur 5 fz) ∧ Thaw cur.size fz ∧ l.length ≤ cap ∧ cap ≤ maxLen ∧ cur.size = cap ∧ cur.toList.take l.length = Lib.byteCells l
theorem BufE.lt {B : Nat} {w : World} {v : Value} {l : List UInt8} (h : BufE B w v l) : ∀ k, v.ownBlock = some k → B ≤ k ∧ k < w.heap.size := by
  obtain ⟨g, cap, cur, fz, rfl, hB, hg, _⟩ := h
  intro k hk
  simp only [Value.ownBlock, Option.some.injEq] at hk
  subst hk
  exact ⟨hB, heap_lt hg⟩
theorem BufE.kept {B : Nat} {w w' : World} {v : Value} {l : List UInt8} (h : BufE B w v l) (hb : Below w.heap.size w w') : BufE B w' v l := by
  obtain ⟨g, cap, cur, fz, rfl, hB, hg, r⟩ := h
  exact ⟨g, cap, cur, fz, rfl, hB, (hb.block g (heap_lt hg)).trans hg, r⟩
theorem BufE.cells {B : Nat} {w : World} {l : List UInt8} {g cap : Nat} (h : BufE B w (.slice (some ⟨g, 0, none⟩) l.length cap) l) : ∀ j u, (Lib.byteCells l)[j]? = some u → w.cell? ((⟨g, 0, none⟩ : Addr).add j) = some u := by
  obtain ⟨g', cap', cur, fz, he, _, hg, _, _, _, _, ht⟩ := h
  simp only [Value.slice.injEq, Option.some.injEq, Addr.mk.injEq, and_true, true_and] at he
  obtain ⟨rfl, rfl⟩ := he
  intro j u hu
  have hadd : (⟨g, 0, none⟩ : Addr).add j = ⟨g, j, none⟩ := by unfold Addr.add; split <;> simp_all
  rw [hadd, cell_of_row w g j cur 5 fz hg]
  rw [← ht, List.getElem?_take] at hu
  split at hu
  · simpa using hu
  · cases hu
theorem BufE.text {B : Nat} {w : World} {v : Value} {l : List UInt8} (h : BufE B w v l) : (convert 61 9 v).run Tryz.prog w = .ok (.string ⟨l.toArray⟩) w := by
  have h' := h
  obtain ⟨g, cap, cur, fz, rfl, _⟩ := h'
  exact run_convert_bytes_back w 61 9 5 _ cap l Tryz.underlying61 Tryz.underlying5 Tryz.underlying9 (fun j hj => h.cells j _ (by simp [Lib.byteCells, hj]))
theorem len_byteCells (l : List UInt8) : (Lib.byteCells l).length = l.length := by simp [Lib.byteCells]
theorem bufE_conv (s : ByteArray) (w : World) (B : Nat) (hB : B ≤ w.heap.size) (hs : s.size ≤ 1000000) : ∃ v w', (convert 9 61 (.string s)).run Tryz.prog w = .ok v w' ∧ BufE B w' v s.data.toList ∧ Below w.heap.size w w' := by
  refine ⟨_, _, run_bytes_of_string w 9 61 5 s Tryz.underlying9 Tryz.underlying61 Tryz.underlying5, ?_, (Below.refl _ _).drew.alloc (Nat.le_refl _) _⟩
  have hl : s.data.toList.length = s.size := by simp
  have hge := grownCap_ge w s.size 0 5
  have hrow : (bytesRow s (grownCap w s.size 0 5)).size = grownCap w s.size 0 5 := by
    simp [bytesRow]
    omega
  refine ⟨w.heap.size, grownCap w s.size 0 5, bytesRow s (grownCap w s.size 0 5), _, by rw [hl], hB, heap_alloc_new w.drew _, ?_, by rw [hl]; exact hge, grownCap_le_maxLen w s.size 0 5 (by unfold maxLen; omega), hrow, ?_⟩
  · intro i hi
    simp only [Bool.and_eq_false_iff, decide_eq_false_iff_not]
    left; omega
  · apply List.ext_getElem?
    intro j
    rw [List.getElem?_take]
    by_cases hj : j < s.data.toList.length
    · rw [if_pos hj]
      have h2 := bytesRow_at s (grownCap w s.size 0 5) j (by simpa using hj)
      simp only [Array.getElem?_toList, h2]
      simp [Lib.byteCells, List.getElem?_eq_getElem hj]
    · rw [if_neg hj]
      symm
      rw [List.getElem?_eq_none_iff, len_byteCells]
      omega

/-- what both appends leave: with room -/
theorem BufE.room {B : Nat} {w : World} {l m : List UInt8} {g cap : Nat} {cur : Array Value} {fz : Nat × Nat} (hB : B ≤ g) (hg : w.heap[g]? = some (.cells cur 5 fz)) (hfz : Thaw cur.size fz) (hcm : cap ≤ maxLen) (hcs : cur.size = cap) (ht : cur.toList.take l.length = Lib.byteCells l) (hroom : l.length + m.length ≤ cap) :
    BufE B (w.setRow g (cur.toList.take l.length ++ Lib.byteCells m ++ cur.toList.drop (l.length + m.length)).toArray) (.slice (some ⟨g, 0, none⟩) (l ++ m).length cap) (l ++ m) := by
  have hsz : (cur.toList.take l.length ++ Lib.byteCells m ++ cur.toList.drop (l.length + m.length)).toArray.size = cur.size := by
    simp only [List.size_toArray, List.length_append, List.length_take, List.length_drop, Array.length_toList, len_byteCells]
    omega
  refine ⟨g, cap, _, fz, rfl, hB, setRow_heap w g cur _ 5 _ hg, by rw [hsz]; exact hfz, by rw [List.length_append]; exact hroom, hcm, by rw [hsz, hcs], ?_⟩
  rw [ht, byteCells_app, show (l ++ m).length = (Lib.byteCells l ++ Lib.byteCells m).length by simp [Lib.byteCells]]
  exact List.take_left
theorem BufE.grown {B : Nat} {w : World} {l m : List UInt8} {cap : Nat} (hB : B ≤ w.heap.size) (hn : l.length + m.length ≤ maxLen) :
    BufE B (w.drew.alloc (.cells ((Lib.byteCells l).toArray ++ (Lib.byteCells m).toArray ++ Builtin.zeroCells (Value.int .u8 0).cells (grownCap w (l.length + m.length) cap 5 - (l.length + m.length))) 5)) (.slice (some ⟨w.heap.size, 0, none⟩) (l ++ m).length (grownCap w (l.length + m.length) cap 5)) (l ++ m) := by
  have hge := grownCap_ge w (l.length + m.length) cap 5
  have hcm := grownCap_le_maxLen w (l.length + m.length) cap 5 hn
  refine ⟨w.heap.size, _, _, (0, 0), rfl, hB, heap_alloc_new w.drew _, ?_, by rw [List.length_append]; exact hge, hcm, ?_, ?_⟩
  · intro i _; simp
  · have hz1 : (Value.int IntKind.u8 0).cells.size = 1 := rfl
    simp only [Array.size_append, List.size_toArray, size_zeroCells, hz1, len_byteCells]
    omega
  · simp only [Array.toList_append, List.append_assoc]
    rw [← List.append_assoc, byteCells_app, show (l ++ m).length = (Lib.byteCells l ++ Lib.byteCells m).length by simp [Lib.byteCells]]
    exact List.take_left
theorem below_row {B g : Nat} (w : World) (row : Array Value) (hB : B ≤ g) : Below B w (w.setRow g row) :=
  ⟨rfl, rfl, rfl, by simp, fun k hk => setRow_other w g k row (by omega)⟩
theorem thaw_string (w : World) (B : Nat) (i : TypeInfo) (ty : TypeId) (hi : Tryz.prog.info? 5 = some i) (hz : i.zero = some (.int .u8 0)) (hsize : i.size = 1) (hby : i.bytes = 1) {v : Value} {l : List UInt8} (h : BufE B w v l) (s : ByteArray) (hn : l.length + s.size ≤ 140737488355328) (hB : B ≤ w.heap.size) :
    ∃ v' w', (Builtin.append_ #[61, 9] ty #[v, .string s]).run Tryz.prog w = .ok v' w' ∧ BufE B w' v' (l ++ s.data.toList) ∧ Below B w w' := by
  have hml : s.data.toList.length = s.size := by simp
  have h' := h
  obtain ⟨g, cap, cur, fz, rfl, hbg, hg, hfz, hlc, hcm, hcs, ht⟩ := h'
  by_cases hroom : l.length + s.size ≤ cap
  · have hf := Lib.run_firstCells_string (P := Tryz.prog) w 1 s
    have hst := run_storeCells_thaw Tryz.prog g l.length 5 fz (Lib.strCells s) 0 cur w hg hfz (by rw [Lib.strCells_length]; omega) (Lib.strCells_oneCell s)
    simp only [Nat.add_zero, Lib.strCells_length] at hst
    rw [strCells_byte] at hst hf
    have hr := BufE.room (l := l) (m := s.data.toList) hbg hg hfz hcm hcs ht (by rw [hml]; exact hroom)
    rw [hml] at hr
    refine ⟨.slice (some ⟨g, 0, none⟩) (l ++ s.data.toList).length cap, _, ?_, hr, below_row _ _ hbg⟩
    simp [Builtin.append_, run_underlying Tryz.underlying61, run_underlying Tryz.underlying9, sizeOf, typeInfo, hi, hsize, Builtin.lenOf, hroom, hf, Addr.add_lit, hst]
  · have hr := Lib.run_append_grow_string (P := Tryz.prog) w 61 9 ty 5 i (.int .u8 0) Tryz.underlying61 Tryz.underlying9 hi hz ⟨g, 0, none⟩ l.length cap (Lib.byteCells l) (by rw [hsize, len_byteCells]; omega) h.cells s (by omega) (by omega) (by rw [hby]; exact growslice_fits (by omega) (by omega))
    have hg2 := BufE.grown (l := l) (m := s.data.toList) (cap := cap) hB (by unfold maxLen; omega)
    rw [strCells_byte] at hr
    rw [hml] at hg2
    refine ⟨_, _, hr, ?_, (Below.refl _ _).drew.alloc (by simpa using hB) _⟩
    rw [List.length_append, hml] at hg2
    exact hg2
theorem thaw_slice (w : World) (B : Nat) (i : TypeInfo) (ty : TypeId) (hi : Tryz.prog.info? 5 = some i) (hz : i.zero = some (.int .u8 0)) (hsize : i.size = 1) (hby : i.bytes = 1) {v : Value} {l : List UInt8} (h : BufE B w v l) (m : List UInt8) (ad : Addr) (c : Nat) (hnews : ∀ j u, (Lib.byteCells m)[j]? = some u → w.cell? (ad.add j) = some u) (hn : l.length + m.length ≤ 140737488355328) (hB : B ≤ w.heap.size) :
    ∃ v' w', (Builtin.append_ #[61, 61] ty #[v, .slice (some ad) m.length c]).run Tryz.prog w = .ok v' w' ∧ BufE B w' v' (l ++ m) ∧ Below B w w' := by
  have h' := h
  obtain ⟨g, cap, cur, fz, rfl, hbg, hg, hfz, hlc, hcm, hcs, ht⟩ := h'
  by_cases hroom : l.length + m.length ≤ cap
  · have hf := run_firstCells_some (P := Tryz.prog) w 1 m.length ad m.length c (Lib.byteCells m) (by rw [len_byteCells]; omega) hnews
    have hst := run_storeCells_thaw Tryz.prog g l.length 5 fz (Lib.byteCells m) 0 cur w hg hfz (by rw [len_byteCells]; omega) (one_bytes m)
    simp only [Nat.add_zero, len_byteCells] at hst
    have hr := BufE.room (l := l) (m := m) hbg hg hfz hcm hcs ht hroom
    refine ⟨.slice (some ⟨g, 0, none⟩) (l ++ m).length cap, _, ?_, hr, below_row _ _ hbg⟩
    simp [Builtin.append_, run_underlying Tryz.underlying61, sizeOf, typeInfo, hi, hsize, Builtin.lenOf, hroom, hf, Addr.add_lit, hst]
  · have hr := run_append_grow (P := Tryz.prog) w 61 ty 5 i (.int .u8 0) Tryz.underlying61 hi hz ⟨g, 0, none⟩ l.length cap (Lib.byteCells l) (by rw [hsize, len_byteCells]; omega) h.cells ad m.length c (Lib.byteCells m) (by rw [hsize, len_byteCells]; omega) hnews (by omega) (by omega) (by rw [hby]; exact growslice_fits (by omega) (by omega))
    have hg2 := BufE.grown (l := l) (m := m) (cap := cap) hB (by unfold maxLen; omega)
    refine ⟨_, _, hr, ?_, (Below.refl _ _).drew.alloc (by simpa using hB) _⟩
    rw [List.length_append] at hg2
    exact hg2
theorem wpList_thaw_string {ops : Array Oper} {rest : List Oper} {o : Oper} {a : Act} {w : World} {Q : Exit → Act → World → Prop} (hgd : o.guard = none) (sl x : Operand)
    (ho : o.op = .call { callee := .builtin .append, args := #[sl, x], argTypes := #[61, 9] })
    (B : Nat) (i : TypeInfo) (hi : Tryz.prog.info? 5 = some i) (hz : i.zero = some (.int .u8 0)) (hsize : i.size = 1) (hby : i.bytes = 1)
    (v : Value) (l : List UInt8) (hs : a.eval sl = v) (hown : BufE B w v l) (s : ByteArray) (hx : a.eval x = .string s) (hn : l.length + s.size ≤ 140737488355328) (hB : B ≤ w.heap.size)
    (h : ∀ v' w', BufE B w' v' (l ++ s.data.toList) → Below B w w' → wpList Tryz.prog ops Q rest (a.put o.dst v') w') : wpList Tryz.prog ops Q (o :: rest) a w := by
  refine wpList_plain hgd fun K hK => ?_
  obtain ⟨v', w', hr, h2, h3⟩ := thaw_string w B i o.type hi hz hsize hby hown s hn hB
  unfold Oper.wp execOp
  simp only [ho, resolve, invoke, builtin, Sem.run_bind, Sem.run_pure, Result.andThen_ok, List.map_toArray, List.map_cons, List.map_nil, hs, hx, hr]
  exact hK _ _ (h v' w' h2 h3)
theorem wpList_thaw_slice {ops : Array Oper} {rest : List Oper} {o : Oper} {a : Act} {w : World} {Q : Exit → Act → World → Prop} (hgd : o.guard = none) (sl x : Operand)
    (ho : o.op = .call { callee := .builtin .append, args := #[sl, x], argTypes := #[61, 61] })
    (B : Nat) (i : TypeInfo) (hi : Tryz.prog.info? 5 = some i) (hz : i.zero = some (.int .u8 0)) (hsize : i.size = 1) (hby : i.bytes = 1)
    (v : Value) (l : List UInt8) (hs : a.eval sl = v) (hown : BufE B w v l) (m : List UInt8) (ad : Addr) (c : Nat) (hx : a.eval x = .slice (some ad) m.length c) (hnews : ∀ j u, (Lib.byteCells m)[j]? = some u → w.cell? (ad.add j) = some u) (hn : l.length + m.length ≤ 140737488355328) (hB : B ≤ w.heap.size)
    (h : ∀ v' w', BufE B w' v' (l ++ m) → Below B w w' → wpList Tryz.prog ops Q rest (a.put o.dst v') w') : wpList Tryz.prog ops Q (o :: rest) a w := by
  refine wpList_plain hgd fun K hK => ?_
  obtain ⟨v', w', hr, h2, h3⟩ := thaw_slice w B i o.type hi hz hsize hby hown m ad c hnews hn hB
  unfold Oper.wp execOp
  simp only [ho, resolve, invoke, builtin, Sem.run_bind, Sem.run_pure, Result.andThen_ok, List.map_toArray, List.map_cons, List.map_nil, hs, hx, hr]
  exact hK _ _ (h v' w' h2 h3)
end Go.Proofs.YtnddcicadmbmkaaGreatDoor
