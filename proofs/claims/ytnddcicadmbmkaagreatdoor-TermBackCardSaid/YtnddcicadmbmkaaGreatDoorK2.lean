/- Back: the walk. Back of a constructor's value (printed by genback.py). Back (func 25): what a kind and a number lead back to. -/
import Derived.Test.YtnddcicadmbmkaaGreatDoorK1
import Derived.Test.YtnddcicadmbmkaaGreatDoorE7
import Derived.Test.YtnddcicadmbmkaaGreatDoorW2
import Derived.StillTailTactics
import Derived.Deep.RegionHeld3
import Derived.Deep.DeepCutAuto
namespace Go.Proofs.YtnddcicadmbmkaaGreatDoor
open Go.RowKit Go.Maps

/-- a value that is not there yet -/
def zeroO : Obj := .cells #[.int .i64 0, .int .i64 0, .string ⟨#[]⟩, .slice none 0 0] 24
set_option maxRecDepth 100000 in
set_option maxHeartbeats 2000000 in
theorem back_one (n : Int) (m : Nat) (st : St) (rb nb : Option Nat) (w : World) (hst : Stor w m st rb nb) :
    Calls Tryz.prog 25 #[.pointer (some ⟨m + 3, 0, none⟩), .int .i64 1, .int .i64 n] w fun e w' => e = .returned (.tuple #[.agg #[.int .i64 1, .int .i64 n, .string ⟨#[]⟩, .slice none 0 0], .bool true]) ∧ Below w.heap.size w w' := by
  have h2 := stor_new hst ((Below.refl _ _).alloc (Nat.le_refl _) zeroO)
  have HB : Hid (Below w.heap.size w (w.alloc zeroO)) := Lib.hid ((Below.refl _ _).alloc (Nat.le_refl _) zeroO)
  unfold zeroO at h2 HB
  obtain ⟨sv, nv, D, D', n0, n', hsto⟩ := h2
  obtain ⟨s0, s1, s2⟩ := hsto.c
  clear hsto
  have qT : ∀ (w : World) (r : Option Nat), (binOp .eql 55 (.map r) (.map none)).run Tryz.prog w = .ok (.bool r.isNone) w := fun w r => run_eql_map_nil w _ _ _ r Tryz.underlying55
  go_enter Tryz.func25, Tryz.ntmps25
  go_wp2_with fail
  (try simp only [Exit.inBlock, Exit.then])
  refine bodyPost_ret (results_cell2 rfl _ _ w.heap.size 24 #[.int .i64 1, .int .i64 n, .string ⟨#[]⟩, .slice none 0 0] (0, 0) _ rfl ?_ Tryz.underlying24 rfl size24) rfl ?_
  · exact heap_alloc_new w _
  · exact ⟨rfl, (Below.refl _ _).alloc (Nat.le_refl _) _⟩
set_option maxRecDepth 100000 in
set_option maxHeartbeats 2000000 in
theorem back_two (n : Nat) (t : ByteArray) (m : Nat) (st : St) (rb nb : Option Nat) (w : World) (hst : Stor w m st rb nb) (ht : Sy.txt st.1 n = t) (hi : Sy.isTxt st.1 n = true) :
    Calls Tryz.prog 25 #[.pointer (some ⟨m + 3, 0, none⟩), .int .i64 2, .int .i64 n] w fun e w' => e = .returned (.tuple #[.agg #[.int .i64 2, .int .i64 0, .string t, .slice none 0 0], .bool true]) ∧ Below w.heap.size w w' := by
  have h2 := stor_new hst ((Below.refl _ _).alloc (Nat.le_refl _) zeroO)
  unfold zeroO at h2
  obtain ⟨sv, nv, D, D', n0, n', hsto⟩ := h2
  obtain ⟨s0, s1, s2⟩ := hsto.c
  have HT := Lib.hid hsto.syms
  clear hsto
  have qT : ∀ (w : World) (r : Option Nat), (binOp .eql 55 (.map r) (.map none)).run Tryz.prog w = .ok (.bool r.isNone) w := fun w r => run_eql_map_nil w _ _ _ r Tryz.underlying55
  go_enter Tryz.func25, Tryz.ntmps25
  go_wp2_with fail
  refine (Sy.text_any _ _ _ _ _ _ (n : Int) _ HT.out).mono ?_
  rintro e w1 ⟨rfl, rfl⟩
  rw [ht, hi]
  go_wp2_with fail
  (try simp only [Exit.inBlock, Exit.then])
  refine bodyPost_ret (results_cell2 rfl _ _ w.heap.size 24 #[.int .i64 2, .int .i64 0, .string t, .slice none 0 0] (0, 0) _ rfl ?_ Tryz.underlying24 rfl size24) rfl ?_
  · exact heap_alloc_new w _
  · exact ⟨rfl, (Below.refl _ _).alloc (Nat.le_refl _) _⟩

theorem kept_cell {w : World} {p : Addr} {v : Value} (h : w.cell? p = some v) (o : Obj) : (w.alloc o).cell? p = some v := (World.cell?_alloc_some w p o (by rw [h]; rfl)).trans h
theorem info24 : ∃ i, Tryz.prog.info? 24 = some i ∧ i.zero = some (.agg #[.int .i64 0, .int .i64 0, .string ⟨#[]⟩, .slice none 0 0]) ∧ i.size = 4 ∧ i.bytes = 56 := by
  have h : (Tryz.prog.info? 24).map (fun i => (i.zero, i.size, i.bytes)) = some (some (.agg #[.int .i64 0, .int .i64 0, .string ⟨#[]⟩, .slice none 0 0]), 4, 56) := by kernel_rfl
  cases hi : Tryz.prog.info? 24 with
  | none => rw [hi] at h; cases h
  | some i => rw [hi] at h; simp at h; exact ⟨i, rfl, h⟩
theorem build24 (w : World) (x0 x1 x2 x3 : Value) : (Instr.buildSlice 22 1 #[(0, .agg #[x0, x1, x2, x3])]).run Tryz.prog w = .ok (.slice (some ⟨w.heap.size, 0, none⟩) 1 1) (w.alloc (.cells #[x0, x1, x2, x3] 24)) := by
  obtain ⟨i, hi, h1, h2, h3⟩ := info24
  refine run_buildSlice w 22 24 1 _ #[x0, x1, x2, x3] i _ Tryz.underlying22 hi h1 (by rw [h2]; omega) (by rw [h2]; omega) ?_
  rw [h2]
  exact fill_one #[x0, x1, x2, x3] _ (by simp)
theorem load22 {w : World} {a : Addr} {v : Value} (h : w.cell? a = some v) : (Instr.loadAt 22 (.pointer (some a))).run Tryz.prog w = .ok v w := by
  go_simp
theorem load24 {w : World} {b : Nat} {x0 x1 x2 x3 : Value} {t : TypeId} {z : Nat × Nat} (h : w.heap[b]? = some (.cells #[x0, x1, x2, x3] t z)) : (Instr.loadAt 24 (.pointer (some ⟨b, 0, none⟩))).run Tryz.prog w = .ok (.agg #[x0, x1, x2, x3]) w := by
  have := run_loadAt_mid (P := Tryz.prog) w b 0 24 [x0, x1, x2, x3] _ (by have := range_of h; simpa using this) Tryz.underlying24 rfl (by rw [size24]; rfl)
  simpa using this
theorem part_held {W0 w1 : World} {b : Nat} {x0 x1 : Value} {t : TypeId} (h : Below W0.heap.size W0 w1) (h1 : W0.heap[b]? = some (.cells #[x0, x1] t (0, 0))) :
    Below W0.heap.size W0 w1 ∧ w1.cell? ⟨b, 0, none⟩ = some x0 ∧ w1.cell? ⟨b, 1, none⟩ = some x1 := by
  have hb := (h.block b (heap_lt h1)).trans h1
  exact ⟨h, by rw [cell_of hb]; rfl, by rw [cell_of hb]; rfl⟩

theorem wp_run {o : Oper} {a : Act} {w : World} {K : Act → World → Prop} {Q : Exit → Act → World → Prop} (v : Value) (w'' : World) (hr : (execOp a.eval o).run Tryz.prog w = .ok (.value v) w'') (h : K (a.put o.dst v) w'') : o.wp Tryz.prog a w K Q := by
  unfold Oper.wp
  rw [hr]
  simpa [Oper.upon] using h
theorem exec_load {o : Oper} {a : Act} {w : World} (ty : TypeId) (x : Operand) (ho : o.op = .load ty x) (p v : Value) (hx : a.eval x = p) (hr : (Instr.loadAt ty p).run Tryz.prog w = .ok v w) : (execOp a.eval o).run Tryz.prog w = .ok (.value v) w := by
  unfold execOp
  simp only [ho, hx, Sem.run_bind, hr, Result.andThen_ok, Sem.run_pure]
theorem exec_build {o : Oper} {a : Act} {w w2 : World} (t : TypeId) (n : Nat) (x : Operand) (ho : o.op = .buildSlice t n #[(0, x)]) (xv v : Value) (hx : a.eval x = xv) (hr : (Instr.buildSlice t n #[(0, xv)]).run Tryz.prog w = .ok v w2) : (execOp a.eval o).run Tryz.prog w = .ok (.value v) w2 := by
  unfold execOp
  simp only [ho, List.map_toArray, List.map_cons, List.map_nil, hx, Sem.run_bind, hr, Result.andThen_ok, Sem.run_pure]

set_option maxRecDepth 100000 in
set_option maxHeartbeats 4000000 in
theorem back_con3 (f : Nat) (n : Nat) (m : Nat) (st : St) (rb nb : Option Nat) (w : World) (ps : List V) (nd : Nd) (hst : Stor w m st rb nb) (hnd : st.2[n]? = some nd) (hps : leadVs (backV f st) nd.2 = some ps)
    (hrec : ∀ (w : World) (k n : Int) (y : V), Stor w m st rb nb → backV f st k n = some y → Calls Tryz.prog 25 #[.pointer (some ⟨m + 3, 0, none⟩), .int .i64 k, .int .i64 n] w (BPost w y)) :
    Calls Tryz.prog 25 #[.pointer (some ⟨m + 3, 0, none⟩), .int .i64 3, .int .i64 n] w (BPost w (.mk 3 0 nd.1 ps)) := by
  have hn := (List.getElem?_eq_some_iff.1 hnd).1
  obtain ⟨hpl, hpat⟩ := lead_at hps
  have HST0 := Lib.hid hst
  have HREC := Lib.hid hrec
  have h2 := stor_new hst ((Below.refl _ _).alloc (Nat.le_refl _) (.cells #[.int .i64 0, .int .i64 0, .string ⟨#[]⟩, .slice none 0 0] 24))
  clear hst hrec
  obtain ⟨sv, nv, D, D', n0, n', hsto⟩ := h2
  obtain ⟨s0, s1, s2⟩ := hsto.c
  obtain ⟨cap2, g, cur, rfl, hgm, hgb, hlc, hcm, hcs, htk⟩ : ∃ cap g cur, nv = .slice (some ⟨g, 0, none⟩) st.2.length cap ∧ m + 4 ≤ g ∧ (w.alloc (.cells #[.int .i64 0, .int .i64 0, .string ⟨#[]⟩, .slice none 0 0] 24)).heap[g]? = some (.cells cur 77 (0, 0)) ∧ st.2.length ≤ cap ∧ cap ≤ maxLen ∧ cur.size = cap * 18 ∧ cur.toList.take (st.2.length * 18) = st.2.flatMap (fun n => (ndC n).toList) := by
    rcases hsto.row.2 with ⟨h1, h2⟩ | ⟨g, cap, cur, h1, h2, h3, h4, h5, h6, h7⟩
    · omega
    · exact ⟨cap, g, cur, h1, h2, h3, h4, h5, h6, h7⟩
  have hl := hsto.len
  have hi0 : decide ((n : Int) < 0) = false := by simp
  have hi1 : decide ((st.2.length : Int) ≤ n) = false := by simp; omega
  have HOKS := Lib.hid hsto.ok
  clear hsto
  have hok := HOKS.out nd (List.mem_of_getElem? hnd)
  have hl8 : nd.2.length ≤ 8 := hok.2.1
  have h80 : (0 : Int) ≤ (nd.2.length : Int) := by omega
  have h88 : (nd.2.length : Int) ≤ 8 := by omega
  have hsl : ∀ (w' : World), (Instr.sliceAt 75 (.pointer (some ⟨w.heap.size + 1, 2, none⟩)) none (some (.int .i64 (nd.2.length : Int))) none).run Tryz.prog w' = .ok (.slice (some ⟨w.heap.size + 1, 2, none⟩) nd.2.length 8) w' := fun w' => slice75 w' _ _ _ h80 h88
  have hrg : (w.alloc (.cells #[.int .i64 0, .int .i64 0, .string ⟨#[]⟩, .slice none 0 0] 24)).rangeAt g (n * 18) (ndC nd).toList := node_range hgb htk hnd
  have HPC := Lib.hid (fun k (h : k < 8) => part_cells nd h)
  have hsz77 : (ndC nd).toList.length = 18 := rfl
  obtain ⟨arr, harr⟩ : ∃ arr, arr = ndC nd := ⟨_, rfl⟩
  rw [← harr] at hrg hsz77 HPC
  have hz77 : (Tryz.prog.info? 77).map (·.size) = some arr.toList.length := by rw [size77, hsz77]
  have hone : arr.all (·.oneCell') = true := by rw [harr]; exact all_oneCell_toArray (ndP_one nd.1 nd.2.length nd.2)
  have hz77' : (Tryz.prog.info? 77).map (·.size) = some arr.size := by rw [harr]; exact size77
  have hN := new_store (w.alloc (.cells #[.int .i64 0, .int .i64 0, .string ⟨#[]⟩, .slice none 0 0] 24)) #[.string ⟨#[]⟩, .int .i64 0, .int .i64 0, .int .i64 0, .int .i64 0, .int .i64 0, .int .i64 0, .int .i64 0, .int .i64 0, .int .i64 0, .int .i64 0, .int .i64 0, .int .i64 0, .int .i64 0, .int .i64 0, .int .i64 0, .int .i64 0, .int .i64 0] arr 77 (by rw [harr]; rfl)
  rw [show (w.alloc (.cells #[.int .i64 0, .int .i64 0, .string ⟨#[]⟩, .slice none 0 0] 24)).heap.size = w.heap.size + 1 from by simp] at hN
  have hth : ((w.alloc (.cells #[.int .i64 0, .int .i64 0, .string ⟨#[]⟩, .slice none 0 0] 24)).alloc (.cells #[.string ⟨#[]⟩, .int .i64 0, .int .i64 0, .int .i64 0, .int .i64 0, .int .i64 0, .int .i64 0, .int .i64 0, .int .i64 0, .int .i64 0, .int .i64 0, .int .i64 0, .int .i64 0, .int .i64 0, .int .i64 0, .int .i64 0, .int .i64 0, .int .i64 0] 77)).there (w.heap.size + 1) 0 arr.size := by
    have h := there_new (w.alloc (.cells #[.int .i64 0, .int .i64 0, .string ⟨#[]⟩, .slice none 0 0] 24)) #[.string ⟨#[]⟩, .int .i64 0, .int .i64 0, .int .i64 0, .int .i64 0, .int .i64 0, .int .i64 0, .int .i64 0, .int .i64 0, .int .i64 0, .int .i64 0, .int .i64 0, .int .i64 0, .int .i64 0, .int .i64 0, .int .i64 0, .int .i64 0, .int .i64 0] 77
    rw [show (w.alloc (.cells #[.int .i64 0, .int .i64 0, .string ⟨#[]⟩, .slice none 0 0] 24)).heap.size = w.heap.size + 1 from by simp] at h
    rw [harr]
    exact h
  obtain ⟨W2, hW2⟩ : ∃ W2, W2 = ((w.alloc (.cells #[.int .i64 0, .int .i64 0, .string ⟨#[]⟩, .slice none 0 0] 24)).alloc (.cells #[.string ⟨#[]⟩, .int .i64 0, .int .i64 0, .int .i64 0, .int .i64 0, .int .i64 0, .int .i64 0, .int .i64 0, .int .i64 0, .int .i64 0, .int .i64 0, .int .i64 0, .int .i64 0, .int .i64 0, .int .i64 0, .int .i64 0, .int .i64 0, .int .i64 0] 77)).setCells (w.heap.size + 1) 0 arr.toList := ⟨_, rfl⟩
  rw [← hW2] at hN
  obtain ⟨hC1, hC2⟩ := hN
  have ha0 : arr[0]? = some (.string nd.1) := by rw [harr]; rfl
  have ha1 : arr[1]? = some (.int .i64 nd.2.length) := by rw [harr]; rfl
  clear harr
  have k0 : W2.cell? ⟨w.heap.size + 1, 0, none⟩ = some (.string nd.1) := by rw [cell_of hC1]; exact ha0
  have k1 : W2.cell? ⟨w.heap.size + 1, 1, none⟩ = some (.int .i64 nd.2.length) := by rw [cell_of hC1]; exact ha1
  have k0' : ∀ o, (W2.alloc o).cell? ⟨w.heap.size + 1, 0, none⟩ = some (.string nd.1) := kept_cell k0
  have k1' : ∀ o, (W2.alloc o).cell? ⟨w.heap.size + 1, 1, none⟩ = some (.int .i64 nd.2.length) := kept_cell k1
  have HW2 := Lib.hid hW2
  have HC1 := Lib.hid hC1
  have hBw : Below w.heap.size w W2 := ((Below.refl _ _).alloc (Nat.le_refl _) _).trans (hC2.mono (by omega))
  have HBW := Lib.hid hBw
  have hr0 : W2.heap[w.heap.size]? = some (.cells #[.int .i64 0, .int .i64 0, .string ⟨#[]⟩, .slice none 0 0] 24 (0, 0)) := (hC2.block _ (by omega)).trans (heap_alloc_new _ _)
  have HR0 := Lib.hid hr0
  have hlt1 := heap_lt hC1
  clear hW2 hC1 hC2 hBw hr0
  have qT : ∀ (w : World) (r : Option Nat), (binOp .eql 55 (.map r) (.map none)).run Tryz.prog w = .ok (.bool r.isNone) w := fun w r => run_eql_map_nil w _ _ _ r Tryz.underlying55
  go_enter Tryz.func25, Tryz.ntmps25
  go_wp2_with (first | (refine wpList_load_mid rfl 77 _ rfl g (n * 18) rfl arr.toList _ hrg Tryz.underlying77 rfl hz77 ?_) | (refine wpList_store_mid rfl 77 _ _ rfl (w.heap.size + 1) 0 arr rfl rfl hth hz77' hone ?_; rw [← HW2.out]) | fail)

  obtain ⟨W3, hW3⟩ : ∃ W3, W3 = W2.alloc (.cells #[.int .i64 3, .int .i64 0, .string nd.1, .slice none 0 0] 24) := ⟨_, rfl⟩
  rw [← hW3]
  have hb3 : W3.heap[W2.heap.size]? = some (.cells #[.int .i64 3, .int .i64 0, .string nd.1, .slice none 0 0] 24 (0, 0)) := by rw [hW3]; exact heap_alloc_new _ _
  have hB3 : Below W2.heap.size W2 W3 := by rw [hW3]; exact (Below.refl _ _).alloc (Nat.le_refl _) _
  have hs3 : W3.heap.size = W2.heap.size + 1 := by rw [hW3]; simp
  have HB3 := Lib.hid hB3
  have Hb3 := Lib.hid hb3
  clear hW3 hb3 hB3 k0 k1 k0' k1' hrg hth hz77 hz77' hone hsl s0 s1 s2 hgb htk ha0 ha1 qT hi0 hi1
  go_loopw [76] (fun i wr => ∃ (k : Nat) (done : List (V × Value)) (sv : Value), k ≤ nd.2.length ∧ i = .int .i64 k ∧ done.length = k ∧ done.map (·.1) = ps.take k ∧ wr.heap[W2.heap.size]? = some (.cells #[.int .i64 3, .int .i64 0, .string nd.1, sv] 24 (0, 0)) ∧ DoneB (W2.heap.size + 1) wr sv W2.heap.size done ∧ Below W2.heap.size W2 wr) (fun i _ => nd.2.length - (intOf i).toNat)
  case atStart => exact ⟨0, [], .slice none 0 0, Nat.zero_le _, rfl, rfl, by simp, Hb3.out, DoneB.nil _ _ _, HB3.out⟩
  case round =>
    obtain ⟨k, done, sv, hk, rfl, hdl, hdm, hvb, hD, hB⟩ := hrel
    have HVB := Lib.hid hvb
    have HD := Lib.hid hD
    have HBR := Lib.hid hB
    have HDL := Lib.hid hdl
    have HDM := Lib.hid hdm
    have hvlt := heap_lt hvb
    have hsl2 : ∃ a cap, sv = .slice a k cap := by
      rcases hD.1.2 with ⟨h1, h2⟩ | ⟨g, cap, cur, h1, _⟩
      · exact ⟨none, 0, by rw [h1]; congr 1; omega⟩
      · exact ⟨_, cap, by rw [h1, hdl]⟩
    obtain ⟨a, cap, rfl⟩ := hsl2
    clear hvb hD hB hdl hdm
    by_cases hlt : k < nd.2.length
    · obtain ⟨y, hy1, hy2⟩ := hpat k _ (pt_at hlt)
      have hc1 := (HBR.out.block _ hlt1).trans HC1.out
      have e0 : wr.cell? ⟨w.heap.size + 1, 2 + k * 2, none⟩ = some (.int .i64 (pt nd k).1) := by rw [cell_of hc1]; exact (HPC.out k (by omega)).1
      have e1 : wr.cell? ⟨w.heap.size + 1, 2 + k * 2 + 1, none⟩ = some (.int .i64 (pt nd k).2) := by rw [cell_of hc1]; exact (HPC.out k (by omega)).2
      obtain ⟨W4, hW4⟩ : ∃ W4, W4 = wr.alloc (.cells #[.int .i64 (pt nd k).1, .int .i64 (pt nd k).2] 74) := ⟨_, rfl⟩
      have hb4 : W4.heap[wr.heap.size]? = some (.cells #[.int .i64 (pt nd k).1, .int .i64 (pt nd k).2] 74 (0, 0)) := by rw [hW4]; exact heap_alloc_new _ _
      have hB4 : Below wr.heap.size wr W4 := by rw [hW4]; exact (Below.refl _ _).alloc (Nat.le_refl _) _
      have hs4 : W4.heap.size = wr.heap.size + 1 := by rw [hW4]; simp
      have HB4 := Lib.hid hB4
      have Hb4 := Lib.hid hb4
      have HW4 := Lib.hid hW4
      have HY := Lib.hid hy2
      have HST4 := Lib.hid (stor_new HST0.out ((HBW.out.trans (HBR.out.mono HBW.out.size)).trans (hB4.mono (by have h1 := HBW.out.size; have h2 := HBR.out.size; omega))))
      clear hy2 hb4 hB4 hW4 hc1
      go_wp2_with fail
      rw [← HW4.out]
      refine (HREC.out _ _ _ y HST4.out HY.out).mono ?_
      rintro e w5 ⟨x, rfl, hx5, hb5⟩
      obtain ⟨sl5, rfl, hsub5⟩ := hx5
      obtain ⟨a5, cap5, rfl⟩ := subP_slice hsub5
      have hz5 := hb5.size
      have hb5v : w5.heap[W2.heap.size]? = some (.cells #[.int .i64 3, .int .i64 0, .string nd.1, .slice a k cap] 24 (0, 0)) := (hb5.block _ (by omega)).trans ((HB4.out.block _ hvlt).trans HVB.out)
      have HSUB := Lib.hid hsub5
      have HB5 := Lib.hid hb5
      have HB5V := Lib.hid hb5v
      clear hsub5 hb5 hb5v e0 e1
      obtain ⟨W6, hW6⟩ : ∃ W6, W6 = w5.alloc (.cells #[.int .i64 y.k, .int .i64 y.n, .string y.s, .slice a5 y.ps.length cap5] 24) := ⟨_, rfl⟩
      have HW6 := Lib.hid hW6
      have hb6 : W6.heap[w5.heap.size]? = some (.cells #[.int .i64 y.k, .int .i64 y.n, .string y.s, .slice a5 y.ps.length cap5] 24 (0, 0)) := by rw [hW6]; exact heap_alloc_new _ _
      have hb6v : W6.heap[W2.heap.size]? = some (.cells #[.int .i64 3, .int .i64 0, .string nd.1, .slice a k cap] 24 (0, 0)) := by rw [hW6, heap_alloc_old _ _ (heap_lt HB5V.out)]; exact HB5V.out
      have hs6 : W6.heap.size = w5.heap.size + 1 := by rw [hW6]; simp
      clear hW6
      go_upto_region 18 with fail
      rw [← HW6.out]
      have r0 : W6.cell? ⟨W2.heap.size, 3, none⟩ = some (.slice a k cap) := by rw [cell_of hb6v]; rfl
      obtain ⟨q0, q1, q2, q3⟩ := block4 hb6
      have r2 := build24 W6 (.int .i64 y.k) (.int .i64 y.n) (.string y.s) (.slice a5 y.ps.length cap5)
      have hBW6 : Below wr.heap.size wr W6 := ((HB4.out.trans (HB5.out.mono (by omega))).trans (by rw [HW6.out]; exact (Below.refl _ _).alloc (by omega) _))
      obtain ⟨W7, hW7⟩ : ∃ W7, W7 = W6.alloc (.cells #[.int .i64 y.k, .int .i64 y.n, .string y.s, .slice a5 y.ps.length cap5] 24) := ⟨_, rfl⟩
      have hs7 : W7.heap.size = W6.heap.size + 1 := by rw [hW7]; simp
      have hBW7 : Below wr.heap.size wr W7 := hBW6.trans (by rw [hW7]; exact (Below.refl _ _).alloc (by have := hBW6.size; omega) _)
      have hD7 := HD.out.below hBW7
      have hb7 : W7.heap[W2.heap.size]? = some (.cells #[.int .i64 3, .int .i64 0, .string nd.1, .slice a k cap] 24 (0, 0)) := (hBW7.block _ hvlt).trans HVB.out
      have hown7 := hD7.1
      rw [HDL.out] at hown7
      have hnews : ∀ j u, (cellsP (y, .slice a5 y.ps.length cap5))[j]? = some u → W7.cell? ((⟨W6.heap.size, 0, none⟩ : Addr).add j) = some u := fun j u hu => by
        rw [hW7]
        exact World.news_of_block (heap_alloc_new W6 (.cells #[.int .i64 y.k, .int .i64 y.n, .string y.s, .slice a5 y.ps.length cap5] 24)) j u (by simpa [cellsP] using hu)
      have hsub7 : SubP (FreeB (W2.heap.size + 1) W7.heap.size W2.heap.size (.slice a k cap)) W7 y (.slice a5 y.ps.length cap5) := HSUB.out.move (fun j hj => ⟨⟨by have h2 : W4.heap.size ≤ j := hj.1; omega, by have h2 : j < w5.heap.size := hj.2; omega, fun e => by
        have h1 := (HD.out.1.lt j e).2
        have h2 : W4.heap.size ≤ j := hj.1
        omega, by have h2 : W4.heap.size ≤ j := hj.1; omega⟩, fun j' => World.cell?_of_block (a := ⟨j, j', none⟩) (by have h2 : j < w5.heap.size := hj.2; rw [hW7, heap_alloc_old _ _ (show j < W6.heap.size by omega), HW6.out, heap_alloc_old _ _ h2])⟩)
      obtain ⟨i7, hi7, hz7, hs7', hy7⟩ := info24
      have HD7 := Lib.hid hD7
      have Hb7 := Lib.hid hb7
      have HOWN7 := Lib.hid hown7
      have HNEWS := Lib.hid hnews
      have HSUB7 := Lib.hid hsub7
      have HBW7 := Lib.hid hBW7
      have HW7 := Lib.hid hW7
      have hbase : W2.heap.size + 1 ≤ W7.heap.size := by omega
      have hv7 : W2.heap.size < W7.heap.size := by omega
      have HS6 := Lib.hid hs6
      have HS7 := Lib.hid hs7
      have HS4 := Lib.hid hs4
      have HS3 := Lib.hid hs3
      clear hs3 hs4 hs6 hs7 hW7 hD7 hb7 hown7 hnews hsub7 hBW7 hBW6 hb6 hb6v
      rw [← HW7.out] at r2
      have r1 := load24 (show W6.heap[w5.heap.size]? = some (.cells #[.int .i64 y.k, .int .i64 y.n, .string y.s, .slice a5 y.ps.length cap5] 24 (0, 0)) from by rw [HW6.out]; exact heap_alloc_new _ _)
      have R1 := Lib.hid r1
      have R2 := Lib.hid r2
      clear r1 r2
      refine wp_region_lit ?_
      iterate 2
        refine wpList_plain rfl (fun K hK => ?_)
        go_simp
        refine hK _ _ ?_
        clear hK K
        try simp only [Act.put, List.setIfInBounds_toArray, List.set_cons_zero, List.set_cons_succ]
      refine wpList_plain rfl (fun K hK => ?_)
      refine wp_run (.agg #[.int .i64 y.k, .int .i64 y.n, .string y.s, .slice a5 y.ps.length cap5]) W6 (exec_load 24 (.tmp 14) rfl _ _ (by rfl) R1.out) ?_
      refine hK _ _ ?_
      clear hK K
      try simp only [Act.put, List.setIfInBounds_toArray, List.set_cons_zero, List.set_cons_succ]
      refine wpList_plain rfl (fun K hK => ?_)
      refine wp_run (.slice (some ⟨W6.heap.size, 0, none⟩) 1 1) W7 (exec_build 22 1 (.tmp 91) rfl _ _ (by rfl) R2.out) ?_
      refine hK _ _ ?_
      clear hK K
      try simp only [Act.put, List.setIfInBounds_toArray, List.set_cons_zero, List.set_cons_succ]
      refine wpList_append_lies W7 rfl (.tmp 90) (.tmp 92) 22 (by rfl) (W2.heap.size + 1) 24 i7 _ 4 56 Tryz.underlying22 hi7 hz7 hs7' hy7 rfl (by omega) (.slice a k cap) k _ (by rfl) HOWN7.out ⟨W6.heap.size, 0, none⟩ 1 1 (cellsP (y, .slice a5 y.ps.length cap5)) (by rfl) rfl HNEWS.out (by simp [cellsP, Value.oneCell']) (by omega) (by unfold maxLen; omega) (by omega) hbase _ rfl ?_
      intro g4 cap4 w8 hown8 hg8 hat8 hlt8
      try simp only [Act.put, List.setIfInBounds_toArray, List.set_cons_zero, List.set_cons_succ]
      have hb8 : w8.heap[W2.heap.size]? = some (.cells #[.int .i64 3, .int .i64 0, .string nd.1, .slice a k cap] 24 (0, 0)) := ((hg8.block W2.heap.size hv7 (fun e => HD.out.2.1 e.symm)).trans Hb7.out)
      have c8 : w8.cell? ⟨W2.heap.size, 3, none⟩ = some (.slice a k cap) := (by rw [cell_of hb8]; rfl)
      have f8 := free_of (j := 3) hb8
      have Hb8 := Lib.hid hb8
      have HOWN8 := Lib.hid hown8
      have HG8 := Lib.hid hg8
      have HAT8 := Lib.hid hat8
      clear hb8 hown8 hg8 hat8 r0 q0 q1 q2 q3
      go_wp2_with fail
      go_roundw
      case rel =>
        refine ⟨k + 1, done ++ [(y, .slice a5 y.ps.length cap5)], .slice (some ⟨g4, 0, none⟩) (k + 1) cap4, by omega, by go_num, by simp [HDL.out], ?_, ?_, ?_, ?_⟩
        · rw [List.map_append, HDM.out, List.take_add_one, hy1]; rfl
        · rw [set_block Hb8.out]; rfl
        · exact (HD7.out.push hv7 HSUB7.out (by rw [HDL.out]; exact HOWN8.out) HG8.out (sv' := .slice (some ⟨g4, 0, none⟩) (k + 1) cap4) (HAT8.out.imp (fun h => h.symm) (fun h => congrArg some h))).setCell _
        · refine Below.setCell (p := ⟨W2.heap.size, 3, none⟩) (B := W2.heap.size) ?_ (Nat.le_refl W2.heap.size) _
          refine (HBR.out.trans (HBW7.out.mono (by omega))).trans ⟨HG8.out.os, HG8.out.tape, HG8.out.output, HG8.out.size, fun j hj => HG8.out.block j (by omega) (fun e => ?_)⟩
          have h1 := (HOWN7.out.lt j e.symm).1
          omega
      case measure => simp [intOf]; omega
    · obtain rfl : k = nd.2.length := by omega
      have hr0 : wr.heap[w.heap.size]? = some (.cells #[.int .i64 0, .int .i64 0, .string ⟨#[]⟩, .slice none 0 0] 24 (0, 0)) := (HBR.out.block _ (by omega)).trans HR0.out
      obtain ⟨c0, c1, c2, c3⟩ := block4 HVB.out
      obtain ⟨d0, d1, d2, d3⟩ := block4 hr0
      have f0 := free_of (j := 0) hr0
      have f1 := free_of (j := 1) hr0
      have f2 := free_of (j := 2) hr0
      have f3 := free_of (j := 3) hr0
      have Hr0 := Lib.hid hr0
      have HS3 := Lib.hid hs3
      clear hr0 hs3
      go_wp2_with fail
      (try simp only [Exit.inBlock, Exit.then])
      have hb9 : ((((wr.setCell ⟨w.heap.size, 0, none⟩ (.int .i64 3)).setCell ⟨w.heap.size, 1, none⟩ (.int .i64 0)).setCell ⟨w.heap.size, 2, none⟩ (.string nd.1)).setCell ⟨w.heap.size, 3, none⟩ (.slice a nd.2.length cap)).heap[w.heap.size]? = some (.cells #[.int .i64 3, .int .i64 0, .string nd.1, .slice a nd.2.length cap] 24 (0, 0)) := by
        rw [set_block (set_block (set_block (set_block Hr0.out)))]; rfl
      refine bodyPost_ret (results_cell2 rfl _ _ w.heap.size 24 #[.int .i64 3, .int .i64 0, .string nd.1, .slice a nd.2.length cap] (0, 0) _ rfl hb9 Tryz.underlying24 rfl size24) rfl ?_
      have hD := HD.out.isVP 3 0 nd.1
      rw [HDM.out, List.take_of_length_le (by omega)] at hD
      refine ⟨_, rfl, hD.move (fun j hj => ⟨⟨by have h1 := hj.1; omega, by simpa [World.setCell] using hj.2⟩, fun j' => World.cell?_of_block (a := ⟨j, j', none⟩) ?_⟩), ?_⟩
      · have h1 : W2.heap.size + 1 ≤ j := hj.1
        rw [Below.heap_setCell _ _ _ _ (show j ≠ w.heap.size by omega), Below.heap_setCell _ _ _ _ (show j ≠ w.heap.size by omega), Below.heap_setCell _ _ _ _ (show j ≠ w.heap.size by omega), Below.heap_setCell _ _ _ _ (show j ≠ w.heap.size by omega)]
      · have h1 : Below w.heap.size w wr := HBW.out.trans (HBR.out.mono (by omega))
        exact (((h1.setCell (p := ⟨w.heap.size, 0, none⟩) (Nat.le_refl _) _).setCell (p := ⟨w.heap.size, 1, none⟩) (Nat.le_refl _) _).setCell (p := ⟨w.heap.size, 2, none⟩) (Nat.le_refl _) _).setCell (p := ⟨w.heap.size, 3, none⟩) (Nat.le_refl _) _

theorem txt_at {L : List ByteArray} {n : Nat} {t : ByteArray} (h : L[n]? = some t) : Sy.txt L n = t ∧ Sy.isTxt L n = true := by
  have hlt := (List.getElem?_eq_some_iff.1 h).1
  refine ⟨?_, ?_⟩
  · unfold Sy.txt
    simp only [hlt, Int.natCast_nonneg, Int.ofNat_lt, and_self, if_true, Int.toNat_natCast, Sy.nth, List.getD_eq_getElem?_getD, h, Option.getD_some]
  · unfold Sy.isTxt
    simp [hlt]
theorem flat_vp (P : Nat → Prop) (w : World) (k n : Int) (s : ByteArray) : IsVP P w (.mk k n s []) (.agg #[.int .i64 k, .int .i64 n, .string s, .slice none 0 0]) :=
  ⟨_, rfl, by unfold SubP; exact ⟨none, 0, rfl, Nat.le_refl _, .inl rfl⟩⟩
theorem back_any : ∀ (f : Nat) (m : Nat) (st : St) (rb nb : Option Nat) (w : World) (k n : Int) (y : V), Stor w m st rb nb → backV f st k n = some y →
    Calls Tryz.prog 25 #[.pointer (some ⟨m + 3, 0, none⟩), .int .i64 k, .int .i64 n] w (BPost w y)
  | 0, _, _, _, _, _, _, _, _, _, h => by unfold backV at h; cases h
  | f + 1, m, st, rb, nb, w, k, n, y, hst, h => by
    by_cases h1 : k = 1
    · subst h1
      rw [back_num] at h
      obtain rfl := Option.some.inj h
      refine (back_one n m st rb nb w hst).mono ?_
      rintro e w' ⟨rfl, hb⟩
      exact ⟨_, rfl, flat_vp _ _ _ _ _, hb⟩
    · by_cases h2 : k = 2
      · subst h2
        by_cases hn : 0 ≤ n
        · obtain ⟨j, rfl⟩ := Int.eq_ofNat_of_zero_le hn
          have h' := back_sym f st j
          rw [show ((j : Nat) : Int) = (j : Int) from rfl] at h'
          rw [h'] at h
          cases ht : st.1[j]? with
          | none => rw [ht] at h; cases h
          | some t =>
            rw [ht] at h
            obtain rfl := Option.some.inj h
            obtain ⟨h3, h4⟩ := txt_at ht
            refine (back_two j t m st rb nb w hst h3 h4).mono ?_
            rintro e w' ⟨rfl, hb⟩
            exact ⟨_, rfl, flat_vp _ _ _ _ _, hb⟩
        · unfold backV at h
          simp [hn] at h
      · by_cases h3 : k = 3
        · subst h3
          by_cases hn : 0 ≤ n
          · obtain ⟨j, rfl⟩ := Int.eq_ofNat_of_zero_le hn
            rw [back_con f st j hn] at h
            rw [Int.toNat_natCast] at h
            cases ht : st.2[j]? with
            | none => rw [ht] at h; cases h
            | some nd =>
              rw [ht] at h
              cases hl : leadVs (backV f st) nd.2 with
              | none => simp [hl] at h
              | some ps =>
                simp [hl] at h
                subst h
                exact back_con3 f j m st rb nb w ps nd hst ht hl (fun w k n y hs hb => back_any f m st rb nb w k n y hs hb)
          · unfold backV at h
            simp [hn] at h
        · unfold backV at h
          simp [h1, h2, h3] at h
end Go.Proofs.YtnddcicadmbmkaaGreatDoor
