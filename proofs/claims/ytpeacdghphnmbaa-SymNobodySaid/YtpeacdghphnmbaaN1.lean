/- A table that nobody made: nil, or the zero table: it has nothing. -/
import Derived.Test.YtpeacdghphnmbaaR2
import Derived.Test.YtpeacdghphnmbaaT7
namespace Go.Proofs.Ytpeacdghphnmbaa
open Go.RowKit Go.Maps Go.Shelf

attribute [local go_sem] Oper.semAt_some

/-- p is a table that nobody made. -/
def Nob (w : World) (p : Option Addr) : Prop := p = none ∨ ∃ X, p = some ⟨X, 0, none⟩ ∧ w.heap[X]? = some (.cells #[.slice none 0 0, .map none] 53 (0, 0))

theorem nob_cells {w : World} {X : Nat} (h : w.heap[X]? = some (.cells #[.slice none 0 0, .map none] 53 (0, 0))) : w.cell? ⟨X, 0, none⟩ = some (.slice none 0 0) ∧ w.cell? ⟨X, 1, none⟩ = some (.map none) := by
  constructor <;> simp [World.cell?, h]

theorem nob_len {w : World} {p : Option Addr} (h : Nob w p) : Calls Try.prog 17 #[.pointer p] w fun e w' => e = .returned (.int .i64 0) ∧ w = w' := by
  rcases h with rfl | ⟨X, rfl, hX⟩
  · go_enter Try.func17, Try.ntmps17
    go_wp2
    go_ret
    exact ⟨rfl, rfl⟩
  · obtain ⟨c0, c1⟩ := nob_cells hX
    clear hX
    go_enter Try.func17, Try.ntmps17
    go_wp2
    go_ret
    exact ⟨rfl, rfl⟩

theorem nob_put {w : World} {p : Option Addr} (h : Nob w p) (s : ByteArray) : Calls Try.prog 11 #[.pointer p, .string s] w fun e w' => e = .returned (.tuple #[.int .i64 0, .int .i64 5]) ∧ w = w' := by
  have qT : ∀ (w : World) (r : Option Nat), (binOp .eql 51 (.map r) (.map none)).run Try.prog w = .ok (.bool r.isNone) w := fun w r => run_eql_map_nil w _ _ _ r Try.underlying51
  rcases h with rfl | ⟨X, rfl, hX⟩
  · go_enter Try.func11, Try.ntmps11
    go_wp2
    go_ret2
    exact ⟨rfl, rfl⟩
  · obtain ⟨c0, c1⟩ := nob_cells hX
    clear hX
    go_enter Try.func11, Try.ntmps11
    go_wp2
    go_ret2
    exact ⟨rfl, rfl⟩

theorem nob_get {w : World} {p : Option Addr} (h : Nob w p) (s : ByteArray) (hs : s.size ≤ maxLen) : Calls Try.prog 15 #[.pointer p, .string s] w fun e w' => e = .returned (.tuple #[.int .i64 0, .bool false]) ∧ w = w' := by
  rcases h with rfl | ⟨X, rfl, hX⟩
  · go_enter Try.func15, Try.ntmps15
    go_wp2
    go_ret2
    exact ⟨rfl, rfl⟩
  · obtain ⟨c0, c1⟩ := nob_cells hX
    have hrun := look_nil (w := w) true law9 Try.underlying51 (zero3 _) (Go.WideMaps.keyOf_string_mk Try.underlying9 hs)
    clear hX
    go_enter Try.func15, Try.ntmps15
    go_wp2
    go_ret2
    exact ⟨rfl, rfl⟩

theorem nob_text {w : World} {p : Option Addr} (h : Nob w p) (i : Int) : Calls Try.prog 16 #[.pointer p, .int .i64 i] w fun e w' => e = .returned (.tuple #[.string ⟨#[]⟩, .bool false]) ∧ w = w' := by
  have H := Lib.hid h
  by_cases h0 : i < 0
  · go_enter Try.func16, Try.ntmps16
    go_wp2_with fail
    go_ret2
    exact ⟨rfl, rfl⟩
  · have h1 : 0 ≤ i := by omega
    clear h0 h
    go_enter Try.func16, Try.ntmps16
    go_wp2_with (go_at_call 17; refine (nob_len H.out).mono ?_; rintro e w' ⟨rfl, rfl⟩)
    go_ret2
    exact ⟨rfl, rfl⟩

theorem nob_less {w : World} {p : Option Addr} (h : Nob w p) (i j : Int) : Calls Try.prog 13 #[.pointer p, .int .i64 i, .int .i64 j] w fun e w' => e = .returned (.bool false) ∧ w = w' := by
  have H := Lib.hid h
  clear h
  go_enter Try.func13, Try.ntmps13
  go_wp2_with (go_at_call 16; refine (nob_text H.out _).mono ?_; rintro e w' ⟨rfl, rfl⟩)
  go_ret
  exact ⟨rfl, rfl⟩

theorem Nob.kept {S : Nat → Prop} {w w' : World} {p : Option Addr} (h : Nob w p) (hf : Fr S w w') (hs : ∀ X, p = some ⟨X, 0, none⟩ → ¬ S X) : Nob w' p := by
  rcases h with rfl | ⟨X, rfl, hX⟩
  · exact .inl rfl
  · exact .inr ⟨X, rfl, by rw [hf.block X (lt_of_block hX) (hs X rfl)]; exact hX⟩

set_option maxRecDepth 100000 in
set_option maxHeartbeats 2000000 in
theorem nob_all1 (l Bt : Nat) (p : Option Addr) (W : World) (hB : W.cell? ⟨Bt, 0, none⟩ = some (.pointer p)) (h : Nob W p) :
    CallsIn Fence.wide 1 Try.prog 22 #[.func (.yield l) #[] #[], .pointer (some ⟨Bt, 0, none⟩)] W fun e W' => (∃ v, e = .returned v) ∧ W' = W := by
  refine callsIn_of_wp Try.func22 rfl trivial ?_ rfl
  simp only [Try.ntmps22, List.size_toArray, List.length_cons, List.length_nil, Nat.reduceAdd, Nat.reduceSub, Array.replicate_succ, Array.replicate_zero, List.push_toArray, List.append_toArray, List.nil_append, List.cons_append]
  have H := Lib.hid h
  clear h
  gi_wp2_with fail
  refine ⟨trivial, (callsIn_wide.2 (nob_len H.out)).mono ?_⟩
  rintro e w' ⟨rfl, rfl⟩
  gi_wp2_with fail
  gi_loopw [6] (fun i wr => i = .int .i64 0 ∧ wr = W) (fun _ _ => 0)
  case atStart => exact ⟨rfl, rfl⟩
  case round =>
    obtain ⟨rfl, rfl⟩ := hrel
    gi_wp2
    go_end0
    exact ⟨⟨_, rfl⟩, rfl⟩

theorem nob_stops {Bt : Nat} {p : Option Addr} (w : World) (h : Nob w p) (hB : w.cell? ⟨Bt, 0, none⟩ = some (.pointer p)) (hBt : Bt < w.heap.size) :
    SeqStopsK Fence.wide 1 Try.prog 22 #[.pointer (some ⟨Bt, 0, none⟩)] (fun _ : Empty => #[Value.int .i64 0, .string ⟨#[]⟩]) (fun _ _ => True) (fun ys => ys = []) (fun _ => False) 0 w := fun l J Jx W hW _ _ _ h0 => by
  refine (nob_all1 l Bt p W ((hW.cell (p := ⟨Bt, 0, none⟩) hBt).trans hB) (h.kept (S := fun _ => False) (Fr.of_below hW) (fun _ _ h => h))).mono ?_
  rintro e W' ⟨he, rfl⟩
  exact ⟨he, .inl ⟨[], rfl, h0⟩⟩

/-- What the rounds of SymNobody lean on: the two tables that nobody made, their list, the result's box. -/
structure NobW (h X Y : Nat) (w V : World) : Prop where
  box : Boxed V h 4 (.bool false)
  tab : V.heap[X]? = some (.cells #[.slice none 0 0, .map none] 53 (0, 0))
  lst : V.heap[Y]? = some (.cells #[.pointer none, .pointer (some ⟨X, 0, none⟩)] 23 (0, 0))
  bel : Below h w V
  le : h ≤ V.heap.size

theorem NobW.c0 {h X Y : Nat} {w V : World} (H : NobW h X Y w V) : V.cell? ⟨Y, 0, none⟩ = some (.pointer none) := by simp [World.cell?, H.lst]
theorem NobW.c1 {h X Y : Nat} {w V : World} (H : NobW h X Y w V) : V.cell? ⟨Y, 1, none⟩ = some (.pointer (some ⟨X, 0, none⟩)) := by simp [World.cell?, H.lst]
theorem NobW.nob0 {h X Y : Nat} {w V : World} (_ : NobW h X Y w V) : Nob V none := .inl rfl
theorem NobW.nob1 {h X Y : Nat} {w V : World} (H : NobW h X Y w V) : Nob V (some ⟨X, 0, none⟩) := .inr ⟨X, rfl, H.tab⟩
theorem NobW.mono {h X Y : Nat} {w V V' : World} (H : NobW h X Y w V) (hb : Below V.heap.size V V') : NobW h X Y w V' :=
  ⟨(hb.block h H.box.lt).trans H.box, (hb.block X (lt_of_block H.tab)).trans H.tab, (hb.block Y (lt_of_block H.lst)).trans H.lst, H.bel.trans (hb.mono H.le), Nat.le_trans H.le hb.size⟩

theorem nobW_start {w w2 : World} (hB : Below (w.heap.size + 1) (w.alloc (.cells #[.bool false] 4)) w2) :
    NobW w.heap.size w2.heap.size (w2.heap.size + 1) w ((w2.alloc (.cells #[.slice none 0 0, .map none] 53)).alloc (.cells #[.pointer none, .pointer (some ⟨w2.heap.size, 0, none⟩)] 23)) := by
  have hz := hB.size
  simp at hz
  refine ⟨?_, ?_, ?_, ?_, by simp; omega⟩
  · have h1 : Boxed w2 w.heap.size 4 (.bool false) := (hB.block _ (by omega)).trans (Boxed.new w 4 (.bool false))
    exact (h1.alloc _).alloc _
  · rw [Below.heap_alloc _ _ _ (by simp)]; exact heap_alloc_new _ _
  · have := heap_alloc_new (w2.alloc (.cells #[.slice none 0 0, .map none] 53)) (.cells #[.pointer none, .pointer (some ⟨w2.heap.size, 0, none⟩)] 23)
    simpa using this
  · exact ((((Below.refl _ w).alloc (Nat.le_refl _) _).trans (hB.mono (by omega))).alloc (by omega) _).alloc (by simp; omega) _

set_option maxRecDepth 100000 in
set_option maxHeartbeats 2000000 in
theorem nobody_in (s : ByteArray) (a b : Int) (w : World) (hs : s.size ≤ maxLen) :
    CallsIn Fence.wide 3 Try.prog 8 #[.string s, .int .i64 a, .int .i64 b] w fun e w' => e = .returned (.bool true) ∧ Below w.heap.size w w' := by
  refine callsIn_of_wp_marks Try.func8 rfl trivial ?_ rfl
  simp only [Try.ntmps8, List.size_toArray, List.length_cons, List.length_nil, Nat.reduceAdd, Nat.reduceSub, Array.replicate_succ, Array.replicate_zero, List.push_toArray, List.append_toArray, List.nil_append, List.cons_append]
  refine wpIn_wide.2 ?_
  go_wp2_with fail
  refine (alive_any _).mono ?_
  rintro e w2 ⟨rfl, hB2⟩
  have HN0 := Lib.hid (nobW_start (by simpa using hB2))
  clear hB2
  go_wp2_with fail
  obtain ⟨X, hX⟩ : ∃ X, X = w2.heap.size := ⟨_, rfl⟩
  obtain ⟨V, hV⟩ : ∃ V, V = ((w2.alloc (.cells #[.slice none 0 0, .map none] 53)).alloc (.cells #[.pointer none, .pointer (some ⟨w2.heap.size, 0, none⟩)] 23)) := ⟨_, rfl⟩
  have HV : NobW w.heap.size X (X + 1) w V := by rw [hV, hX]; exact HN0.out
  rw [← hV, ← hX]
  clear HN0 hV hX
  refine wp_loop_rounds 3 ?_
  rw [rounds_succ]
  have HN0 := Lib.hid HV
  clear HV
  have c0 := HN0.out.c0
  have c1 := HN0.out.c1
  go_wp2_with fail
  refine (nob_put HN0.out.nob0 s).mono ?_
  rintro e w' ⟨rfl, rfl⟩
  go_wp2_with fail
  refine (nob_get HN0.out.nob0 s hs).mono ?_
  rintro e w' ⟨rfl, rfl⟩
  go_wp2_with fail
  refine (nob_text HN0.out.nob0 a).mono ?_
  rintro e w' ⟨rfl, rfl⟩
  go_wp2_with fail
  refine (nob_len HN0.out.nob0).mono ?_
  rintro e w' ⟨rfl, rfl⟩
  go_wp2_with fail
  refine (nob_less HN0.out.nob0 a b).mono ?_
  rintro e w' ⟨rfl, rfl⟩
  go_wp2_with fail
  refine (all_in _ _).mono ?_
  rintro e w' ⟨rfl, rfl⟩
  go_wp2_with fail
  refine (wpIn_wide (n := 2)).1 ?_
  have hbox := Boxed.new V 23 (.pointer none)
  obtain ⟨V0, hV0⟩ : ∃ U, U = V.alloc (.cells #[.pointer none] 23) := ⟨_, rfl⟩
  have HB0 : Hid (Below V.heap.size V V0) := by rw [hV0]; exact (Below.refl _ _).alloc (Nat.le_refl _) _
  rw [← hV0] at hbox ⊢
  have HX0 := Lib.hid hbox
  clear hV0 hbox c0 c1
  refine wpIn_rangeFunc_ownG rfl (by omega) (gf := 22) (lb := #[.pointer (some ⟨V.heap.size, 0, none⟩)]) rfl trivial (enters_of Try.func22 (by kernel_rfl) rfl)
    (nob_stops V0 (HN0.out.mono HB0.out).nob0 HX0.out.cell HX0.out.lt) (fun _ _ => trivial) (fun _ _ _ _ _ _ _ _ => trivial) (Below.refl _ _) (fun x => x.elim)
    (fun _ W => Below V0.heap.size V0 W) (fun _ _ _ => False) (ownFrom_below (Nat.le_refl _) (Nat.le_refl _)) (fun _ _ _ _ _ h _ _ => h) (Below.refl _ _) (fun x => x.elim) ?_ ?_ ?_ ?_
  · intro l x; exact x.elim
  · intro l pre x; exact x.elim
  · rintro D0 ys W0 hD0 rfl hI0 hK0
    have HV : NobW w.heap.size X (X + 1) w W0 := (HN0.out.mono HB0.out).mono hI0
    go_wp2_with fail
    rw [rounds_succ]
    have HN1 := Lib.hid HV
    clear HV
    have c0 := HN1.out.c0
    have c1 := HN1.out.c1
    go_wp2_with fail
    refine (nob_put HN1.out.nob1 s).mono ?_
    rintro e w' ⟨rfl, rfl⟩
    go_wp2_with fail
    refine (nob_get HN1.out.nob1 s hs).mono ?_
    rintro e w' ⟨rfl, rfl⟩
    go_wp2_with fail
    refine (nob_text HN1.out.nob1 a).mono ?_
    rintro e w' ⟨rfl, rfl⟩
    go_wp2_with fail
    refine (nob_len HN1.out.nob1).mono ?_
    rintro e w' ⟨rfl, rfl⟩
    go_wp2_with fail
    refine (nob_less HN1.out.nob1 a b).mono ?_
    rintro e w' ⟨rfl, rfl⟩
    go_wp2_with fail
    refine (all_in _ _).mono ?_
    rintro e w' ⟨rfl, rfl⟩
    go_wp2_with fail
    refine (wpIn_wide (n := 2)).1 ?_
    have hbox := Boxed.new W0 23 (.pointer (some ⟨X, 0, none⟩))
    obtain ⟨V1, hV1⟩ : ∃ U, U = W0.alloc (.cells #[.pointer (some ⟨X, 0, none⟩)] 23) := ⟨_, rfl⟩
    have HB1 : Hid (Below W0.heap.size W0 V1) := by rw [hV1]; exact (Below.refl _ _).alloc (Nat.le_refl _) _
    rw [← hV1] at hbox ⊢
    have HX1 := Lib.hid hbox
    clear hV1 hbox c0 c1
    refine wpIn_rangeFunc_ownG rfl (by omega) (gf := 22) (lb := #[.pointer (some ⟨W0.heap.size, 0, none⟩)]) rfl trivial (enters_of Try.func22 (by kernel_rfl) rfl)
      (nob_stops V1 (HN1.out.mono HB1.out).nob1 HX1.out.cell HX1.out.lt) (fun _ _ => trivial) (fun _ _ _ _ _ _ _ _ => trivial) (Below.refl _ _) (fun x => x.elim)
      (fun _ W => Below V1.heap.size V1 W) (fun _ _ _ => False) (ownFrom_below (Nat.le_refl _) (Nat.le_refl _)) (fun _ _ _ _ _ h _ _ => h) (Below.refl _ _) (fun x => x.elim) ?_ ?_ ?_ ?_
    · intro l x; exact x.elim
    · intro l pre x; exact x.elim
    · rintro D1 ys W1 hD1 rfl hI1 hK1
      have HV : NobW w.heap.size X (X + 1) w W1 := (HN1.out.mono HB1.out).mono hI1
      go_wp2_with fail
      rw [rounds_succ]
      have HK0 := Lib.hid hK0
      have HK1 := Lib.hid hK1
      have HVV := Lib.hid HV
      have HI1 := Lib.hid hI1
      have HDD := Lib.hid hD1
      clear hK0 hK1 HV hI1
      gi_wp2_with fail
      go_wp2_with fail
      refine (alive_any _).mono ?_
      rintro e W2 ⟨rfl, hB2⟩
      have HV2 := Lib.hid (HVV.out.mono hB2)
      have hd0 : D0 < W0.heap.size := lt_of_block HK0.out
      have e0 : W2.heap[D0]? = some (.deferred (some [])) := by
        rw [hB2.block D0 (by have := HI1.out.size; have := HB1.out.size; omega), HI1.out.block D0 (by have := HB1.out.size; omega), HB1.out.block D0 hd0]
        exact HK0.out
      have hd1 : D1 < W1.heap.size := lt_of_block HK1.out
      have e1 : W2.heap[D1]? = some (.deferred (some [])) := (hB2.block D1 hd1).trans HK1.out
      have hne : D0 ≠ D1 := by have := HB1.out.size; have := HDD.out; omega
      have hdw1 : w.heap.size < D1 := by have := HN0.out.box.lt; have := HB0.out.size; have := HB1.out.size; have := HDD.out; omega
      have hdw : w.heap.size < D0 := by have := HN0.out.box.lt; have := HB0.out.size; omega
      have E0 := Lib.hid e0
      have E1 := Lib.hid e1
      have HNE := Lib.hid hne
      have cb := HV2.out.box.cell
      have fb := HV2.out.box.frozen
      clear hB2 e0 e1 hne hd0 hd1
      go_wp2_with fail
      have f1 := (KeepsOthers.setCell W2 ⟨w.heap.size, 0, none⟩ (.bool true)).same D1 _ E1.out rfl
      have f0 := (KeepsOthers.setCell W2 ⟨w.heap.size, 0, none⟩ (.bool true)).same D0 _ E0.out rfl
      have f0' : ((W2.setCell ⟨w.heap.size, 0, none⟩ (.bool true)).putObj D1 (.deferred none)).heap[D0]? = some (.deferred (some [])) := by rw [World.putObj_heap_other HNE.out]; exact f0
      have hc4 := cell_kept (HV2.out.box.set (.bool true)).cell (grownBy_putObj' _ D1 (.deferred none)) (fun r e => by cases e; exact ⟨_, f1, rfl⟩)
      have hc5 := cell_kept hc4 (grownBy_putObj' _ D0 (.deferred none)) (fun r e => by cases e; exact ⟨_, f0', rfl⟩)
      have hb1 : Below w.heap.size w (W2.setCell ⟨w.heap.size, 0, none⟩ (.bool true)) := HV2.out.bel.setCell (p := ⟨w.heap.size, 0, none⟩) (Nat.le_refl _) _
      have hb2 := belowK_b (w := w) (Nat.le_refl _) _ D1 _ (.deferred none) (by omega) f1 rfl rfl
      have hb3 := belowK_b (w := w) (Nat.le_refl _) _ D0 _ (.deferred none) (by omega) f0' rfl rfl
      refine ⟨by simp, .inl ⟨_, _, rfl, run_takeDeferred f1, ?_⟩⟩
      refine ⟨by simp, .inl ⟨_, _, rfl, run_takeDeferred f0', ?_⟩⟩
      refine ⟨.bool true, ?_, rfl, (hb1.trans hb2).trans hb3⟩
      simp [results, Try.f8, go_sem, hc5]
    · rintro D c pre W _ h
      exact h.elim
  · rintro D c pre W _ h
    exact h.elim

end Go.Proofs.Ytpeacdghphnmbaa
