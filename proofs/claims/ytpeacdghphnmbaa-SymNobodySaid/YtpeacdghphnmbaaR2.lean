/- Going over a table: 'stands', the comparison of the two tables. -/
import Derived.Test.YtpeacdghphnmbaaR1
import Derived.Deep.QuietTactic
import Derived.BigQuiet
import Derived.Test.YtpeacdghphnmbaaQ1
import Derived.BigRegionIn
namespace Go.Proofs.Ytpeacdghphnmbaa
open Go.RowKit Go.Maps Go.Shelf

attribute [local go_sem] Oper.semAt_some

theorem Sees.kept {m Bt : Nat} {L : List ByteArray} {W W' : World} {row : Option Nat} (h : Sees m Bt L W) (hg : W.grownBy W' row) (hr : ∀ r, row = some r → ∃ o : Obj, W.heap[r]? = some o ∧ o.isCells = false) : Sees m Bt L W' := by
  refine ⟨cell_kept h.1 hg hr, ?_⟩
  rcases h.2 with h0 | ⟨g, n, cap, h1, h2, h3⟩
  · exact .inl h0
  · exact .inr ⟨g, n, cap, cell_kept h1 hg hr, h2, fun k hk => cell_kept (h3 k hk) hg hr⟩

theorem Tab.drewN {w : World} {m : Nat} {L : List ByteArray} {rb : Option Nat} {sv : Value} {D : DataW Unit} {n : Nat} (h : Tab w m L rb sv D n) (q : Nat) : Tab (w.drewN q) m L rb sv D n :=
  ⟨h.cells, h.map, h.few, h.is, h.row, h.blk, h.len, h.nodup, h.wide⟩

theorem stands_sz (w : World) (n : Nat) : (w.drewN n).heap.size = w.heap.size := rfl
theorem stands_drew {B : Nat} {w w3 : World} (h : Below B w w3) (n : Nat) : Below B w (w3.drewN n) := ⟨h.os, h.tape, h.output, h.size, h.block⟩
theorem stands_box {w : World} {B : Nat} {t : TypeId} {v : Value} (h : Boxed w B t v) (n : Nat) : Boxed (w.drewN n) B t v := h
theorem stands_boxed {W W' : World} {row : Option Nat} {B : Nat} {t : TypeId} {v : Value} (h : Boxed W B t v) (hg : W.grownBy W' row) (hr : ∀ r, row = some r → ∃ o : Obj, W.heap[r]? = some o ∧ o.isCells = false) : Boxed W' B t v :=
  h.kept hg (fun e => by
    obtain ⟨o, ho, hc⟩ := hr B e.symm
    rw [show W.heap[B]? = _ from h] at ho
    cases ho
    cases hc)

theorem ko_drew {W X : World} {n : Nat} (h : KeepsOthers (W.drewN n) X) : KeepsOthers W X := ⟨h.size, h.same⟩
theorem cell_set_other (W : World) {a b : Addr} (u : Value) (h : a.block ≠ b.block) : (W.setCell b u).cell? a = W.cell? a := World.cell?_of_block (Below.heap_setCell _ _ _ _ h)
theorem fins_at {L : List ByteArray} {pre : List (Fin L.length)} {x : Fin L.length} (h : pre ++ [x] <+: List.finRange L.length) : x.1 = pre.length := by
  obtain ⟨t, ht⟩ := h
  have h1 : (List.finRange L.length)[pre.length]? = some x := by rw [← ht]; simp
  obtain ⟨h2, h3⟩ := List.getElem?_eq_some_iff.1 h1
  rw [← h3]
  simp

theorem all_stops {m Bt : Nat} {L : List ByteArray} {rb : Option Nat} {sv : Value} {D : DataW Unit} {n : Nat} (w : World) (h : Tab w m L rb sv D n) (hB : w.cell? ⟨Bt, 0, none⟩ = some (.pointer (some ⟨m + 1, 0, none⟩))) (hBt : Bt < w.heap.size) :
    SeqStopsK Fence.wide 1 Try.prog 22 #[.pointer (some ⟨Bt, 0, none⟩)] (fun x : Fin L.length => #[Value.int .i64 (x.1 : Nat), .string (nth L x.1)]) (fun W W' => Sees m Bt L W → Sees m Bt L W')
      (fun ys => ys = List.finRange L.length) (fun pre => pre <+: List.finRange L.length) L.length w := fun l J Jx W hW _ _ hY h0 => by
  have hT : Tab W m L rb sv D n := h.kept (S := fun _ => False) (Fr.of_below hW) (fun _ _ h => h)
  have hB' := (hW.cell (p := ⟨Bt, 0, none⟩) hBt).trans hB
  exact all1_in l Bt m L h.len J Jx hY W (hT.sees hB') (len_any m n L rb sv D W hT) h0

theorem all_in (p : Option Addr) (w : World) : Calls Try.prog 18 #[.pointer p] w fun e w' => e = .returned (.func (.func 22) #[] #[.pointer (some ⟨w.heap.size, 0, none⟩)]) ∧ w' = w.alloc (.cells #[.pointer p] 23) := by
  go_enter Try.func18, Try.ntmps18
  go_wp2
  go_ret
  exact ⟨rfl, rfl⟩

set_option maxRecDepth 100000 in
set_option maxHeartbeats 2000000 in
theorem stands_in (m b n : Nat) (L : List ByteArray) (rb rbR : Option Nat) (sv svR : Value) (D : DataW Unit) (w : World) (hT : Tab w m L rb sv D n) (hR : RTab w b L rbR svR) :
    CallsIn Fence.wide 3 Try.prog 21 #[.pointer (some ⟨m + 1, 0, none⟩), .pointer (some ⟨b, 0, none⟩)] w fun e w' => e = .returned (.bool true) ∧ Below w.heap.size w w' := by
  refine callsIn_of_wp_marks Try.func21 rfl trivial ?_ rfl
  simp only [Try.ntmps21, List.size_toArray, List.length_cons, List.length_nil, Nat.reduceAdd, Nat.reduceSub, Array.replicate_succ, Array.replicate_zero, List.push_toArray, List.append_toArray, List.nil_append, List.cons_append]
  have HT := Lib.hid hT
  have HR := Lib.hid hR
  clear hT hR
  have hbR : b < w.heap.size := lt_of_block HR.out.cells
  refine wpIn_wide.2 ?_
  go_wp2_with fail
  have hS := HR.out.c0
  have hT2 : Hid (Tab ((w.alloc (.cells #[.pointer (some ⟨b, 0, none⟩)] 50)).alloc (.cells #[.bool false] 4)) m L rb sv D n) := HT.out.kept (S := fun _ => False) ((Fr.of_alloc _ _ _).trans (Fr.of_alloc _ _ _)) (fun _ _ h => h)
  obtain ⟨capR, aR, hsvR⟩ := row_slice HR.out.row
  subst hsvR
  go_quiet ((go_at_call 17; exact Calls.quiet_of_same ((len_any m n L rb _ D _ (hT2.out.drewN _)).mono fun e w' h => ⟨h.1, h.2.symm⟩)))
  go_wp2_with fail
  refine (all_in _ _).mono ?_
  rintro e w' ⟨rfl, rfl⟩
  go_wp2_with fail
  refine (wpIn_wide (n := 2)).1 ?_
  have bI := Boxed.new ((((w.alloc (.cells #[.pointer (some ⟨b, 0, none⟩)] 50)).alloc (.cells #[.bool false] 4)).drewN nq)) 3 (.int .i64 0)
  have hTB := Boxed.new (((((w.alloc (.cells #[.pointer (some ⟨b, 0, none⟩)] 50)).alloc (.cells #[.bool false] 4)).drewN nq).alloc (.cells #[.int .i64 0] 3))) 23 (.pointer (some ⟨m + 1, 0, none⟩))
  have bS := (Boxed.new (w.alloc (.cells #[.pointer (some ⟨b, 0, none⟩)] 50)) 4 (.bool false))
  have bR := (Boxed.new w 50 (.pointer (some ⟨b, 0, none⟩)))
  simp only [World.size_alloc, stands_sz] at bI hTB bS
  obtain ⟨W0, hW0⟩ : ∃ W0, W0 = ((((((w.alloc (.cells #[.pointer (some ⟨b, 0, none⟩)] 50)).alloc (.cells #[.bool false] 4)).drewN nq).alloc (.cells #[.int .i64 0] 3)).alloc (.cells #[.pointer (some ⟨m + 1, 0, none⟩)] 23))) := ⟨_, rfl⟩
  rw [← hW0] at hTB ⊢
  have hz0 : W0.heap.size = w.heap.size + 4 := by rw [hW0]; simp [stands_sz]
  have hB0 : Below w.heap.size w W0 := by
    rw [hW0]
    refine ((stands_drew ((((Below.refl _ _).alloc (Nat.le_refl _) _).alloc (by simp) _)) nq).alloc ?_ _).alloc ?_ _
    · simp [stands_sz]; omega
    · simp [stands_sz]; omega
  have bI0 : Boxed W0 (w.heap.size + 2) 3 (.int .i64 0) := by rw [hW0]; exact bI.alloc _
  have bS0 : Boxed W0 (w.heap.size + 1) 4 (.bool false) := by rw [hW0]; exact ((stands_box bS nq).alloc _).alloc _
  have bR0 : Boxed W0 w.heap.size 50 (.pointer (some ⟨b, 0, none⟩)) := by rw [hW0]; exact ((stands_box (bR.alloc _) nq).alloc _).alloc _
  clear bI bS bR hW0 hT2
  have HTB := Lib.hid hTB
  have HB0 := Lib.hid hB0
  have hT0 : Hid (∀ W, Below w.heap.size w W → Tab W m L rb sv D n ∧ RTab W b L rbR (.slice aR L.length capR)) := fun W hW =>
    ⟨HT.out.kept (S := fun _ => False) (Fr.of_below hW) (fun _ _ h => h), HR.out.kept (S := fun _ => False) (Fr.of_below hW) (fun _ _ h => h)⟩
  clear hTB hB0
  refine wpIn_rangeFunc_ownG rfl (by omega) (gf := 22) (lb := #[.pointer (some ⟨w.heap.size + 1 + 1 + 1, 0, none⟩)]) rfl trivial (enters_of Try.func22 (by kernel_rfl) rfl)
    (all_stops (m := m) (Bt := w.heap.size + 1 + 1 + 1) W0 (hT0.out W0 HB0.out).1 HTB.out.cell HTB.out.lt) (fun h h' x => h' (h x)) (fun W l o o' _ hl ho _ hs => hs.kept (grownBy_putObj' W l o') (fun r e => by cases e; exact ⟨o, hl, ho⟩)) (Below.refl _ _) (fun _ => rfl)
    (fun pre W => (pre = fins L pre.length ∧ pre.length ≤ L.length ∧ Boxed W (w.heap.size + 2) 3 (.int .i64 (pre.length : Nat)) ∧ Boxed W (w.heap.size + 1) 4 (.bool false) ∧ Boxed W w.heap.size 50 (.pointer (some ⟨b, 0, none⟩))) ∧ Below w.heap.size w W)
    (fun c pre W => (c = .ret ∧ ¬ pre <+: List.finRange L.length) ∧ Below w.heap.size w W)
    (OwnFrom.and (fun s A B row hs hg hr => ⟨hs.1, hs.2.1, stands_boxed hs.2.2.1 hg (fun r e => (hr r e).2), stands_boxed hs.2.2.2.1 hg (fun r e => (hr r e).2), stands_boxed hs.2.2.2.2 hg (fun r e => (hr r e).2)⟩) (ownFrom_below (Nat.le_refl _) (by omega)))
    (fun c => OwnFrom.and (fun s A B row hs hg hr => hs) (ownFrom_below (Nat.le_refl _) (by omega)))
    ⟨⟨by simp [fins], Nat.zero_le _, bI0, bS0, bR0⟩, HB0.out⟩
    (fun x => { tmps := #[.pointer (some ⟨m + 1, 0, none⟩), .pointer (some ⟨b, 0, none⟩), undef, .pointer (some ⟨w.heap.size, 0, none⟩), .pointer (some ⟨w.heap.size + 1, 0, none⟩), .pointer (some ⟨w.heap.size + 1 + 1, 0, none⟩), .int .i64 (x.1 : Nat), .string (nth L x.1),
      .pointer (some ⟨m + 1, 0, none⟩), .int .i64 L.length, .pointer (some ⟨b, 0, none⟩), .pointer (some ⟨b, 0, none⟩), .pointer (some ⟨b, 0, none⟩), .slice aR L.length capR, .int .i64 L.length, .bool false, .pointer (some ⟨m + 1, 0, none⟩),
      .func (.func 22) #[] #[.pointer (some ⟨w.heap.size + 1 + 1 + 1, 0, none⟩)], .int .i64 (x.1 : Nat), .string (nth L x.1), undef, undef, undef, undef, undef, undef, undef, undef, undef, undef, undef, undef, undef, undef, undef, undef, undef, undef, undef, undef, undef, undef, undef, undef, undef, undef, undef, undef, undef, undef, undef, undef], defers := [] }) ?assign ?body ?done ?stop
  case assign =>
    intro l x W K hK
    gi_wp2
    exact hK
  case body =>
    rintro l pre x W ⟨⟨hp, hpl, bI, bS, bR⟩, hB⟩ hlt
    have cI := bI.cell
    have fI := bI.frozen
    have cS := bS.cell
    have fS := bS.frozen
    have cR := bR.cell
    have HI := Lib.hid bI
    have HS := Lib.hid bS
    have HR2 := Lib.hid bR
    have HP := Lib.hid hp
    have HBW := Lib.hid hB
    have HTW := Lib.hid (hT0.out W hB)
    have cT := HTW.out.2.c0
    clear bI bS bR hp hB
    by_cases hx : x.1 = pre.length
    · obtain ⟨k, hk⟩ := x
      obtain rfl : k = pre.length := hx
      obtain ⟨g, cap', hsv, hcg⟩ := HTW.out.2.at hk
      cases hsv
      have hl16 := HTW.out.1.len
      have hd : decide (L.length ≤ pre.length) = false := by simp; omega
      gi_wp2_with fail
      refine region_quiet_round rfl (by kernel_rfl) (by kernel_rfl) (by kernel_rfl) ?_
      repeat (gi_big_quiet_step (fail))
      refine wpQuietIn_nil ?_
      rintro _ ⟨nq, rfl⟩
      gi_wp2_with fail
      have hlen := fins_len (L := L) (k := pre.length + 1) (by omega)
      have hpx : pre ++ [⟨pre.length, hk⟩] = fins L (pre.length + 1) := by rw [fins_succ hk, ← HP.out]
      have hB' : Below w.heap.size w ((W.drewN nq).setCell ⟨w.heap.size + 2, 0, none⟩ (.int .i64 ((pre.length : Int) + 1))) := (stands_drew HBW.out nq).setCell (by show w.heap.size ≤ w.heap.size + 2; omega) _
      refine ⟨(ko_drew (KeepsOthers.setCell (W.drewN nq) _ _)).from _, fun hSees => ?_, ⟨?_, ?_, ?_, ?_, ?_⟩, hB'⟩
      · exact (hT0.out _ hB').1.sees ((cell_set_other (W.drewN nq) (a := ⟨w.heap.size + 1 + 1 + 1, 0, none⟩) (b := ⟨w.heap.size + 2, 0, none⟩) _ (by simp)).trans hSees.1)
      · rw [hpx, hlen]
      · rw [hpx, hlen]; omega
      · rw [hpx, hlen]; exact (stands_box HI.out nq).set _
      · exact (stands_box HS.out nq).kept (grownBy_setCell' _ _ _) (by simp)
      · exact (stands_box HR2.out nq).kept (grownBy_setCell' _ _ _) (by simp; omega)
    · have hne : (((x.1 : Nat) : Int) != ((pre.length : Nat) : Int)) = true := by simp; omega
      gi_wp2_with fail
      refine region_quiet_round rfl (by kernel_rfl) (by kernel_rfl) (by kernel_rfl) ?_
      repeat (gi_big_quiet_step (fail))
      refine wpQuietIn_nil ?_
      rintro _ ⟨nq, rfl⟩
      gi_wp2_with fail
      refine ⟨(ko_drew (KeepsOthers.setCell (W.drewN nq) _ _)).from _, ⟨rfl, fun hpre => hx ?_⟩, (stands_drew HBW.out nq).setCell (by show w.heap.size ≤ w.heap.size + 1; omega) _⟩
      exact fins_at hpre
  case done =>
    rintro D ys W hD rfl ⟨⟨hp, hpl, bI, bS, bR⟩, hB⟩ hK
    have cI := bI.cell
    have cS := bS.cell
    have fS := bS.frozen
    have cR := bR.cell
    have HS := Lib.hid bS
    have HBW := Lib.hid hB
    have HTW := Lib.hid (hT0.out W hB)
    have cT := HTW.out.2.c0
    have HK := Lib.hid hK
    rw [List.length_finRange] at cI
    clear bI bS bR hp hB hpl hK
    obtain ⟨W, rfl⟩ : ∃ W', W' = W := ⟨_, rfl⟩
    gi_wp2_with fail
    go_wp2_with fail
    go_region
    go_wp2_with fail
    have hK' : ((W.setCell ⟨w.heap.size + 1, 0, none⟩ (.bool true)).drew).heap[D]? = some (.deferred (some [])) := (KeepsOthers.setCell W ⟨w.heap.size + 1, 0, none⟩ (.bool true)).same D _ HK.out rfl
    have hc4 : ((W.setCell ⟨w.heap.size + 1, 0, none⟩ (.bool true)).drew).cell? ⟨w.heap.size + 1, 0, none⟩ = some (.bool true) := (HS.out.set (.bool true)).cell
    have hc5 := cell_kept hc4 (grownBy_putObj' _ D (.deferred none)) (fun r e => by cases e; exact ⟨_, hK', rfl⟩)
    have hb1 : Below w.heap.size w ((W.setCell ⟨w.heap.size + 1, 0, none⟩ (.bool true)).drew) := (HBW.out.setCell (p := ⟨w.heap.size + 1, 0, none⟩) (by simp) _).drew
    have hb2 := belowK_b (w := w) (Nat.le_refl _) _ D _ (.deferred none) (by omega) hK' rfl rfl
    refine ⟨by simp, .inl ⟨_, _, rfl, run_takeDeferred hK', ?_⟩⟩
    refine ⟨.bool true, ?_, rfl, hb1.trans hb2⟩
    simp [results, Try.f21, go_sem, hc5]
  case stop =>
    rintro D c pre W hD hpre ⟨⟨rfl, hno⟩, hB⟩ hK
    exact absurd hpre hno

end Go.Proofs.Ytpeacdghphnmbaa
