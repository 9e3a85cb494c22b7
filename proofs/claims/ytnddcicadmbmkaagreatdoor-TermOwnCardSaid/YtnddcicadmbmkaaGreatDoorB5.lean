/- The replacer that Text makes: build's walk. -/
import Derived.Test.YtnddcicadmbmkaaGreatDoorB4
import Derived.Laws.Cover3
import Derived.Lib.SmallJoins
namespace Go.Proofs.YtnddcicadmbmkaaGreatDoor
open Go.RowKit

theorem eq_nil (w : World) : (binOp .eql 61 (.slice none 0 0) (.slice none 0 0)).run Tryz.prog w = .ok (.bool true) w := by
  simp [binOp, run_equal_slice_nil w 61 5 none 0 0 Tryz.underlying61]
theorem conv_one (n : UInt8) (w : World) (g : Nat) (h : w.heap[g]? = some (.cells #[.int .u8 (n.toNat : Int)] 5 (0, 0))) : (convert 61 9 (.slice (some ⟨g, 0, none⟩) 1 1)).run Tryz.prog w = .ok (.string ⟨#[n]⟩) w := by
  refine run_convert_bytes_back w 61 9 5 ⟨g, 0, none⟩ 1 [n] Tryz.underlying61 Tryz.underlying5 Tryz.underlying9 ?_
  intro j hj
  simp at hj
  subst hj
  simp [World.cell?, h, Addr.add]
def escE (i : Nat) : Option (List UInt8) := if i = 34 then some [92, 34] else if i = 92 then some [92, 92] else if i = 10 then some [92, 110] else if i = 9 then some [92, 116] else none
def escT : List ByteArray := [⟨#[9]⟩, ⟨#[10]⟩, ⟨#[92]⟩, ⟨#[34]⟩]
theorem conv_bytes (s : ByteArray) (w : World) : ∃ cap row fz, s.size ≤ cap ∧ (∀ (j : Nat) (u : UInt8), s.data.toList[j]? = some u → row[j]? = some (Value.int .u8 (u.toNat : Int))) ∧
    (convert 9 61 (.string s)).run Tryz.prog w = .ok (.slice (some ⟨w.heap.size, 0, none⟩) s.size cap) (w.drew.alloc (.cells row 5 fz)) := by
  refine ⟨grownCap w s.size 0 5, bytesRow s (grownCap w s.size 0 5), _, grownCap_ge _ _ _ _, ?_, run_bytes_of_string w 9 61 5 s Tryz.underlying9 Tryz.underlying61 Tryz.underlying5⟩
  intro j u hj
  obtain ⟨hj', rfl⟩ := List.getElem?_eq_some_iff.1 hj
  have hj2 : j < s.data.size := by simpa using hj'
  rw [bytesRow_at s _ j hj2]
  simp
theorem one_new (w : World) (o : Obj) (v : Value) (t : TypeId) : ∀ j u, ([v] : List Value)[j]? = some u → ((w.alloc o).alloc (.cells #[v] t)).cell? ((⟨w.heap.size + 1, 0, none⟩ : Addr).add j) = some u := by
  intro j u hj
  have hj' := (List.getElem?_eq_some_iff.1 hj).1
  simp at hj'
  subst hj'
  simp at hj
  subst hj
  have h := heap_alloc_new (w.alloc o) (.cells #[v] t)
  rw [show (w.alloc o).heap.size = w.heap.size + 1 by simp] at h
  obtain ⟨W', hW'⟩ : ∃ W', W' = (w.alloc o).alloc (.cells #[v] t) := ⟨_, rfl⟩
  rw [← hW'] at h ⊢
  simp [Addr.add, World.cell?, h]
theorem own_form {w : World} {B n : Nat} {e : TypeId} {v : Value} {xs : List Value} (h : w.ownsRow B e 1 v n xs) (hn : 0 < n) : ∃ g cap, v = .slice (some ⟨g, 0, none⟩) n cap := by
  rcases h.2 with h2 | ⟨g, cap, cur, h3, _⟩
  · omega
  · exact ⟨g, cap, h3⟩
theorem RIn.two {B : Nat} {w : World} {r : Nat} {es : Nat → Option (List UInt8)} {ts : List ByteArray} (h : RIn B w r es ts) (o1 o2 : Obj) : RIn B ((w.alloc o1).alloc o2) r es ts :=
  h.keep (fun k _ hk => by rw [Below.heap_alloc _ _ _ (by simp; omega), Below.heap_alloc _ _ _ hk])
theorem RIn.mid {B : Nat} {w W4 : World} {r : Nat} {es : Nat → Option (List UInt8)} {ts : List ByteArray} {sl : Value} {o1 o2 : Obj} (h : RIn B w r es ts) (hsl : w.cell? ⟨r, 256, none⟩ = some sl)
    (hgrow : ((w.alloc o1).alloc o2).grownBy W4 sl.ownBlock) (hns : sl.ownBlock ≠ some r) : W4.heap[r]? = w.heap[r]? ∧ W4.cell? ⟨r, 256, none⟩ = some sl ∧ W4.frozen? ⟨r, 256, none⟩ = false := by
  have hl := h.lt
  have h1 : W4.heap[r]? = w.heap[r]? := by
    rw [hgrow.block r (by simp; omega) (fun e => hns e.symm), Below.heap_alloc _ _ _ (by simp; omega), Below.heap_alloc _ _ _ hl]
  exact ⟨h1, (World.cell?_of_block (w := w) h1).trans hsl, (World.frozen?_of_block (w := w) h1).trans (h.thaw 256)⟩
/-- one round's writes: a text, then a place -/
theorem RIn.round {B : Nat} {w W4 W5 : World} {r : Nat} {es : Nat → Option (List UInt8)} {ts : List ByteArray} {t : ByteArray} {sl v2 : Value} {o1 o2 : Obj} (h : RIn B w r es ts) (hsl : w.cell? ⟨r, 256, none⟩ = some sl)
    (hown : W4.ownsRow B 9 1 v2 (ts.length + 1) (ts.map .string ++ [.string t])) (hgrow : ((w.alloc o1).alloc o2).grownBy W4 sl.ownBlock) (hos : w.ownsRow B 9 1 sl ts.length (ts.map .string)) (hns : sl.ownBlock ≠ some r) (hB : B ≤ w.heap.size)
    (h5 : W5 = W4.setCell ⟨r, 256, none⟩ v2) : RIn B W5 r es (ts ++ [t]) ∧ Below B w W5 := by
  have hm := h.mid hsl hgrow hns
  have h2 := h.two o1 o2
  have hl := h.lt
  have hsl2 : ((w.alloc o1).alloc o2).cell? ⟨r, 256, none⟩ = some sl := by
    rw [← hsl]
    refine World.cell?_of_block (w := w) ?_
    rw [Below.heap_alloc _ _ _ (by simp; omega), Below.heap_alloc _ _ _ hl]
  rw [h5]
  refine ⟨h2.text hsl2 hgrow hown ?_, ?_⟩
  · intro e
    obtain ⟨_, cells, _, hb, _⟩ := h
    rcases hown.2 with ⟨e4, _⟩ | ⟨g, cap, cur, e4, _, e5, _⟩
    · rw [e4] at e; simp [Value.ownBlock] at e
    · rw [e4] at e
      simp only [Value.ownBlock, Option.some.injEq] at e
      rw [e, hm.1, hb] at e5
      simp at e5
  · have hBr : B ≤ r := h.1
    exact ((((Below.refl B w).alloc hB o1).alloc (by simp; omega) o2).grown hgrow (by simp; omega) (fun k e => (hos.lt k e).1)).setCell (p := ⟨r, 256, none⟩) hBr _
theorem RIn.round2 {B : Nat} {w W5 W7 : World} {r o : Nat} {es : Nat → Option (List UInt8)} {ts : List ByteArray} {s : ByteArray} {cap : Nat} {row : Array Value} {fz : Nat × Nat} (h : RIn B W5 r es ts) (hb : Below B w W5) (hB : B ≤ W5.heap.size) (ho : o < 256) (hcp : s.size ≤ cap)
    (hrow : ∀ (j : Nat) (u : UInt8), s.data.toList[j]? = some u → row[j]? = some (Value.int .u8 (u.toNat : Int)))
    (h7 : W7 = (W5.drew.alloc (.cells row 5 fz)).setCell ⟨r, o, none⟩ (.slice (some ⟨W5.heap.size, 0, none⟩) s.size cap)) : RIn B W7 r (fun i => if i = o then some s.data.toList else es i) ts ∧ Below B w W7 := by
  have hl := h.lt
  have h6 : RIn B (W5.drew.alloc (.cells row 5 fz)) r es ts := h.keep (fun k _ hk => Below.heap_alloc W5.drew _ k hk)
  rw [h7]
  refine ⟨h6.place ho ?_, (hb.drew.alloc (by simpa using hB) _).setCell (p := ⟨r, o, none⟩) h.1 _⟩
  unfold Ent
  have hsz : s.data.toList.length = s.size := by simp
  refine ⟨W5.heap.size, cap, row, fz, by rw [hsz], by rw [hsz]; exact hcp, hB, by omega, heap_alloc_new W5.drew _, hrow⟩
theorem RIn.draw {B : Nat} {W5 : World} {r : Nat} {es : Nat → Option (List UInt8)} {ts : List ByteArray} {row : Array Value} {fz : Nat × Nat} (h : RIn B W5 r es ts) : RIn B (W5.drew.alloc (.cells row 5 fz)) r es ts := h.keep (fun k _ hk => Below.heap_alloc W5.drew _ k hk)
theorem setCells_other {b k : Nat} : ∀ (vs : List Value) (o : Nat) (w : World), k ≠ b → (w.setCells b o vs).heap[k]? = w.heap[k]?
  | [], _, _, _ => rfl
  | v :: r, o, w, h => by
    unfold World.setCells
    rw [setCells_other r (o + 1) _ h]
    exact Below.heap_setCell _ _ _ _ h
theorem below_setCells {B b : Nat} {a : World} (hb : B ≤ b) : ∀ (vs : List Value) (o : Nat) (w : World), Below B a w → Below B a (w.setCells b o vs)
  | [], _, _, h => h
  | v :: r, o, w, h => by
    unfold World.setCells
    exact below_setCells hb r (o + 1) _ (h.setCell (p := ⟨b, o, none⟩) hb v)
theorem Olds.below {B g : Nat} {w w' : World} (h : Olds w g) (hb : Below B w w') (hg : g < B) : Olds w' g := by
  obtain ⟨h0, h1, h2, h3, h4, h5, h6, h7⟩ := h
  exact ⟨(hb.cell (p := ⟨g, 0, none⟩) hg).trans h0, (hb.cell (p := ⟨g, 1, none⟩) hg).trans h1, (hb.cell (p := ⟨g, 2, none⟩) hg).trans h2, (hb.cell (p := ⟨g, 3, none⟩) hg).trans h3, (hb.cell (p := ⟨g, 4, none⟩) hg).trans h4, (hb.cell (p := ⟨g, 5, none⟩) hg).trans h5, (hb.cell (p := ⟨g, 6, none⟩) hg).trans h6, (hb.cell (p := ⟨g, 7, none⟩) hg).trans h7⟩

set_option maxRecDepth 100000 in
set_option maxHeartbeats 2000000 in
theorem build_any (b g cap : Nat) (w : World) (ho : w.cell? ⟨b, 4, none⟩ = some (.slice (some ⟨g, 0, none⟩) 8 cap)) (hg : Olds w g) (_hcap : 8 ≤ cap) (hgl : g < w.heap.size) :
    Calls Tryz.prog 77 #[.pointer (some ⟨b, 0, none⟩)] w fun e w' => ∃ r, e = .returned (.iface 139 (.pointer (some ⟨r, 0, none⟩))) ∧ RIn w.heap.size w' r escE escT ∧ Below w.heap.size w w' := by
  obtain ⟨i9, hi, hz0, hz1, hz2⟩ := info_parts (P := Tryz.prog) (e := 9) (z := .string ⟨#[]⟩) (size := 1) (bytes := 16) (by kernel_rfl)
  have HG := Lib.hid hg
  obtain ⟨g0, g1, g2, g3, g4, g5, g6, g7⟩ := hg
  go_enter Tryz.func77, Tryz.ntmps77
  go_wp2_with fail
  refine wp_loop_rounds 5 ?_
  rw [rounds_succ]; go_wp2_with fail
  rw [rounds_succ]; go_wp2_with fail
  rw [rounds_succ]; go_wp2_with fail
  rw [rounds_succ]; go_wp2_with fail
  rw [rounds_succ]
  go_wp2_with (at_make; refine wpList_make_own _ rfl _ _ 33 rfl w.heap.size 9 i9 _ 1 Tryz.underlying33 hi hz0 hz1 .i64 .i64 4 4 rfl rfl rfl (by omega) (by unfold maxLen; omega) (Nat.le_refl _) ?_)
  intro w1 hown hgrow
  go_wp2_with fail
  rw [newR_eq]
  have hbk := heap_alloc_new w1 (.cells Tryz.zeroCells138 138)
  have hsc := run_storeCells_cells (P := Tryz.prog) w1.heap.size 0 (newR (.slice (some ⟨w.heap.size, 0, none⟩) 0 4)) 0 (w1.alloc (.cells Tryz.zeroCells138 138)) (by
    intro j hj
    rw [newR_len] at hj
    have hj' : j < Tryz.zeroCells138.size := by rw [zero138]; exact hj
    simp only [World.cell?, hbk, Nat.zero_add]
    rw [Array.getElem?_eq_getElem hj']
    rfl) (by intro j hj; simp only [World.frozen?, hbk]; simp) (newR_one rfl)
  rw [hsc]
  clear hsc
  rw [show 0 + 0 = 0 from rfl]
  obtain ⟨W3, hW3⟩ : ∃ W3, W3 = (w1.alloc (.cells Tryz.zeroCells138 138)).setCells w1.heap.size 0 (newR (.slice (some ⟨w.heap.size, 0, none⟩) 0 4)) := ⟨_, rfl⟩
  have hb3 : W3.heap[w1.heap.size]? = some (.cells (newR (.slice (some ⟨w.heap.size, 0, none⟩) 0 4)).toArray 138 (0, 0)) := by
    rw [hW3]
    exact store_all _ 0 _ [] hbk (by rw [zero138, newR_len]) rfl rfl
  rw [← hW3]
  simp only [Result.andThen]
  rw [Oper.upon_skip]
  have hlt1 : w.heap.size < w1.heap.size := by
    obtain ⟨_, h⟩ := hown.lt w.heap.size rfl
    exact h
  have hB3 : Below w.heap.size w W3 := by
    rw [hW3]
    refine below_setCells (by omega) _ _ _ ?_
    exact (((Below.refl _ _).grown hgrow (Nat.le_refl _) (fun k e => by cases e)).alloc (by omega) _)
  have HB3 := Lib.hid hB3
  have HR3 : RIn w.heap.size W3 w1.heap.size (fun _ => none) [] := by
    refine ⟨hgrow.size, (newR (.slice (some ⟨w.heap.size, 0, none⟩) 0 4)).toArray, .slice (some ⟨w.heap.size, 0, none⟩) 0 4, hb3, ?_, ?_, ?_, ?_, fun i hi => ⟨.slice none 0 0, ?_, ?_⟩⟩
    · rw [List.size_toArray, newR_len]
    · rw [List.getElem?_toArray]; exact newR_last
    · refine own_same hown (fun k e => ?_)
      simp only [Value.ownBlock, Option.some.injEq] at e
      subst e
      rw [hW3, setCells_other _ _ _ (by omega), Below.heap_alloc _ _ _ hlt1]
    · simp only [Value.ownBlock, ne_eq, Option.some.injEq]; omega
    · rw [List.getElem?_toArray]; exact newR_lt hi
    · unfold Ent; rfl
  clear hb3 hW3 hbk hB3 ho g0 g1 g2 g3 g4 g5 g6 g7
  go_wp2_with fail
  obtain ⟨V0, hV0⟩ : ∃ V0, V0 = W3 := ⟨_, rfl⟩
  rw [← hV0] at HB3 HR3 ⊢
  have HB := HB3
  have HR := HR3
  clear HB3 HR3 hV0
  have hnil := eq_nil
  refine wp_loop_rounds 5 ?_
  -- round 0
  rw [rounds_succ]
  obtain ⟨sl, hsl, hos, hns⟩ := HR.texts
  have hlr := HR.lt
  have hrf := HR.thaw 256
  have hcv := conv_one 9 (V0.alloc (.cells #[.int .u8 9] 5)) V0.heap.size (heap_alloc_new _ _)
  have hb9 : (ByteArray.mk #[9])[0].toNat = 9 := rfl
  have hc9 := HR.cell (i := 9) (by omega) (by simp)
  obtain ⟨g0, g1, g2, g3, g4, g5, g6, g7⟩ := HG.out.below HB.out hgl
  go_wp2_with (at_builtin; refine wpList_append_own _ rfl _ _ 33 rfl w.heap.size 9 i9 (.string ⟨#[]⟩) 1 16 Tryz.underlying33 hi hz0 hz1 hz2 rfl (by decide) sl _ _ rfl ((hos.alloc _).alloc _) ⟨V0.heap.size + 1, 0, none⟩ 1 1 [.string ⟨#[9]⟩] (by rfl) rfl ?_ (by simp [Value.oneCell']) (by unfold maxLen; simp) (by simp) (by simp; omega) ?_)
  · exact one_new _ _ _ _
  intro v2 W4 hown4 hgrow4 hne4
  obtain ⟨_, hcell4, hfree4⟩ := HR.mid hsl hgrow4 hns
  have hsz0 := HB.out.size
  obtain ⟨hr5, hb5⟩ := HR.round (W5 := W4.setCell ⟨w1.heap.size, 256, none⟩ v2) hsl hown4 hgrow4 hos hns hsz0 rfl
  have HR5 := hr5
  have HB5 := Lib.hid (HB.out.trans hb5)
  obtain ⟨gs, cs, rfl⟩ := own_form hown4 (by simp)
  obtain ⟨W5, hW5⟩ : ∃ W5, W5 = W4.setCell ⟨w1.heap.size, 256, none⟩ (.slice (some ⟨gs, 0, none⟩) 1 cs) := ⟨_, rfl⟩
  obtain ⟨ncap, nrow, nfz, hncp, hnrow, hnrun⟩ := conv_bytes ⟨#[92, 116]⟩ W5
  clear hb5 hr5 hown4 hgrow4 hos hcv
  go_wp2_with fail
  rw [← hW5] at HR5 HB5 ⊢
  obtain ⟨W6, hW6⟩ : ∃ W6, W6 = W5.drew.alloc (.cells nrow 5 nfz) := ⟨_, rfl⟩
  rw [hnrun, ← hW6]
  simp only [Result.andThen]
  rw [Oper.upon_value]
  have hcd := HR5.draw (row := nrow) (fz := nfz)
  rw [← hW6] at hcd
  have hz5 := HB5.out.size
  obtain ⟨V1, hV1⟩ : ∃ V1, V1 = W6.setCell ⟨w1.heap.size, 9, none⟩ (.slice (some ⟨W5.heap.size, 0, none⟩) 2 ncap) := ⟨_, rfl⟩
  obtain ⟨HR, hbn⟩ := HR5.round2 (o := 9) HB5.out hz5 (by omega) hncp hnrow (hW6 ▸ hV1)
  have HB := Lib.hid hbn
  have hcc := hcd.cell (i := 9) (by omega) (by simp)
  have hcf := hcd.thaw 9
  clear hbn hnrun hW5 hW6 hcd hncp hnrow
  go_wp2_with fail
  rw [← hV1]
  clear hV1 hcc hcf HR5 HB5 g0 g1 g2 g3 g4 g5 g6 g7 hsl hns hlr hrf hb9 hc9 hcell4 hfree4 hsz0 hne4 hz5
  -- round 1
  rw [rounds_succ]
  obtain ⟨sl, hsl, hos, hns⟩ := HR.texts
  have hlr := HR.lt
  have hrf := HR.thaw 256
  have hcv := conv_one 10 (V1.alloc (.cells #[.int .u8 10] 5)) V1.heap.size (heap_alloc_new _ _)
  have hb9 : (ByteArray.mk #[10])[0].toNat = 10 := rfl
  have hc9 := HR.cell (i := 10) (by omega) (by simp)
  obtain ⟨g0, g1, g2, g3, g4, g5, g6, g7⟩ := HG.out.below HB.out hgl
  go_wp2_with (at_builtin; refine wpList_append_own _ rfl _ _ 33 rfl w.heap.size 9 i9 (.string ⟨#[]⟩) 1 16 Tryz.underlying33 hi hz0 hz1 hz2 rfl (by decide) sl _ _ rfl ((hos.alloc _).alloc _) ⟨V1.heap.size + 1, 0, none⟩ 1 1 [.string ⟨#[10]⟩] (by rfl) rfl ?_ (by simp [Value.oneCell']) (by unfold maxLen; simp) (by simp) (by simp; omega) ?_)
  · exact one_new _ _ _ _
  intro v2 W4 hown4 hgrow4 hne4
  obtain ⟨_, hcell4, hfree4⟩ := HR.mid hsl hgrow4 hns
  have hsz0 := HB.out.size
  obtain ⟨hr5, hb5⟩ := HR.round (W5 := W4.setCell ⟨w1.heap.size, 256, none⟩ v2) hsl hown4 hgrow4 hos hns hsz0 rfl
  have HR5 := hr5
  have HB5 := Lib.hid (HB.out.trans hb5)
  obtain ⟨gs, cs, rfl⟩ := own_form hown4 (by simp)
  obtain ⟨W5, hW5⟩ : ∃ W5, W5 = W4.setCell ⟨w1.heap.size, 256, none⟩ (.slice (some ⟨gs, 0, none⟩) 2 cs) := ⟨_, rfl⟩
  obtain ⟨ncap, nrow, nfz, hncp, hnrow, hnrun⟩ := conv_bytes ⟨#[92, 110]⟩ W5
  clear hb5 hr5 hown4 hgrow4 hos hcv
  go_wp2_with fail
  rw [← hW5] at HR5 HB5 ⊢
  obtain ⟨W6, hW6⟩ : ∃ W6, W6 = W5.drew.alloc (.cells nrow 5 nfz) := ⟨_, rfl⟩
  rw [hnrun, ← hW6]
  simp only [Result.andThen]
  rw [Oper.upon_value]
  have hcd := HR5.draw (row := nrow) (fz := nfz)
  rw [← hW6] at hcd
  have hz5 := HB5.out.size
  obtain ⟨V2, hV2⟩ : ∃ V2, V2 = W6.setCell ⟨w1.heap.size, 10, none⟩ (.slice (some ⟨W5.heap.size, 0, none⟩) 2 ncap) := ⟨_, rfl⟩
  obtain ⟨HR, hbn⟩ := HR5.round2 (o := 10) HB5.out hz5 (by omega) hncp hnrow (hW6 ▸ hV2)
  have HB := Lib.hid hbn
  have hcc := hcd.cell (i := 10) (by omega) (by simp)
  have hcf := hcd.thaw 10
  clear hbn hnrun hW5 hW6 hcd hncp hnrow
  go_wp2_with fail
  rw [← hV2]
  clear hV2 hcc hcf HR5 HB5 g0 g1 g2 g3 g4 g5 g6 g7 hsl hns hlr hrf hb9 hc9 hcell4 hfree4 hsz0 hne4 hz5
  -- round 2
  rw [rounds_succ]
  obtain ⟨sl, hsl, hos, hns⟩ := HR.texts
  have hlr := HR.lt
  have hrf := HR.thaw 256
  have hcv := conv_one 92 (V2.alloc (.cells #[.int .u8 92] 5)) V2.heap.size (heap_alloc_new _ _)
  have hb9 : (ByteArray.mk #[92])[0].toNat = 92 := rfl
  have hc9 := HR.cell (i := 92) (by omega) (by simp)
  obtain ⟨g0, g1, g2, g3, g4, g5, g6, g7⟩ := HG.out.below HB.out hgl
  go_wp2_with (at_builtin; refine wpList_append_own _ rfl _ _ 33 rfl w.heap.size 9 i9 (.string ⟨#[]⟩) 1 16 Tryz.underlying33 hi hz0 hz1 hz2 rfl (by decide) sl _ _ rfl ((hos.alloc _).alloc _) ⟨V2.heap.size + 1, 0, none⟩ 1 1 [.string ⟨#[92]⟩] (by rfl) rfl ?_ (by simp [Value.oneCell']) (by unfold maxLen; simp) (by simp) (by simp; omega) ?_)
  · exact one_new _ _ _ _
  intro v2 W4 hown4 hgrow4 hne4
  obtain ⟨_, hcell4, hfree4⟩ := HR.mid hsl hgrow4 hns
  have hsz0 := HB.out.size
  obtain ⟨hr5, hb5⟩ := HR.round (W5 := W4.setCell ⟨w1.heap.size, 256, none⟩ v2) hsl hown4 hgrow4 hos hns hsz0 rfl
  have HR5 := hr5
  have HB5 := Lib.hid (HB.out.trans hb5)
  obtain ⟨gs, cs, rfl⟩ := own_form hown4 (by simp)
  obtain ⟨W5, hW5⟩ : ∃ W5, W5 = W4.setCell ⟨w1.heap.size, 256, none⟩ (.slice (some ⟨gs, 0, none⟩) 3 cs) := ⟨_, rfl⟩
  obtain ⟨ncap, nrow, nfz, hncp, hnrow, hnrun⟩ := conv_bytes ⟨#[92, 92]⟩ W5
  clear hb5 hr5 hown4 hgrow4 hos hcv
  go_wp2_with fail
  rw [← hW5] at HR5 HB5 ⊢
  obtain ⟨W6, hW6⟩ : ∃ W6, W6 = W5.drew.alloc (.cells nrow 5 nfz) := ⟨_, rfl⟩
  rw [hnrun, ← hW6]
  simp only [Result.andThen]
  rw [Oper.upon_value]
  have hcd := HR5.draw (row := nrow) (fz := nfz)
  rw [← hW6] at hcd
  have hz5 := HB5.out.size
  obtain ⟨V3, hV3⟩ : ∃ V3, V3 = W6.setCell ⟨w1.heap.size, 92, none⟩ (.slice (some ⟨W5.heap.size, 0, none⟩) 2 ncap) := ⟨_, rfl⟩
  obtain ⟨HR, hbn⟩ := HR5.round2 (o := 92) HB5.out hz5 (by omega) hncp hnrow (hW6 ▸ hV3)
  have HB := Lib.hid hbn
  have hcc := hcd.cell (i := 92) (by omega) (by simp)
  have hcf := hcd.thaw 92
  clear hbn hnrun hW5 hW6 hcd hncp hnrow
  go_wp2_with fail
  rw [← hV3]
  clear hV3 hcc hcf HR5 HB5 g0 g1 g2 g3 g4 g5 g6 g7 hsl hns hlr hrf hb9 hc9 hcell4 hfree4 hsz0 hne4 hz5
  -- round 3
  rw [rounds_succ]
  obtain ⟨sl, hsl, hos, hns⟩ := HR.texts
  have hlr := HR.lt
  have hrf := HR.thaw 256
  have hcv := conv_one 34 (V3.alloc (.cells #[.int .u8 34] 5)) V3.heap.size (heap_alloc_new _ _)
  have hb9 : (ByteArray.mk #[34])[0].toNat = 34 := rfl
  have hc9 := HR.cell (i := 34) (by omega) (by simp)
  obtain ⟨g0, g1, g2, g3, g4, g5, g6, g7⟩ := HG.out.below HB.out hgl
  go_wp2_with (at_builtin; refine wpList_append_own _ rfl _ _ 33 rfl w.heap.size 9 i9 (.string ⟨#[]⟩) 1 16 Tryz.underlying33 hi hz0 hz1 hz2 rfl (by decide) sl _ _ rfl ((hos.alloc _).alloc _) ⟨V3.heap.size + 1, 0, none⟩ 1 1 [.string ⟨#[34]⟩] (by rfl) rfl ?_ (by simp [Value.oneCell']) (by unfold maxLen; simp) (by simp) (by simp; omega) ?_)
  · exact one_new _ _ _ _
  intro v2 W4 hown4 hgrow4 hne4
  obtain ⟨_, hcell4, hfree4⟩ := HR.mid hsl hgrow4 hns
  have hsz0 := HB.out.size
  obtain ⟨hr5, hb5⟩ := HR.round (W5 := W4.setCell ⟨w1.heap.size, 256, none⟩ v2) hsl hown4 hgrow4 hos hns hsz0 rfl
  have HR5 := hr5
  have HB5 := Lib.hid (HB.out.trans hb5)
  obtain ⟨gs, cs, rfl⟩ := own_form hown4 (by simp)
  obtain ⟨W5, hW5⟩ : ∃ W5, W5 = W4.setCell ⟨w1.heap.size, 256, none⟩ (.slice (some ⟨gs, 0, none⟩) 4 cs) := ⟨_, rfl⟩
  obtain ⟨ncap, nrow, nfz, hncp, hnrow, hnrun⟩ := conv_bytes ⟨#[92, 34]⟩ W5
  clear hb5 hr5 hown4 hgrow4 hos hcv
  go_wp2_with fail
  rw [← hW5] at HR5 HB5 ⊢
  obtain ⟨W6, hW6⟩ : ∃ W6, W6 = W5.drew.alloc (.cells nrow 5 nfz) := ⟨_, rfl⟩
  rw [hnrun, ← hW6]
  simp only [Result.andThen]
  rw [Oper.upon_value]
  have hcd := HR5.draw (row := nrow) (fz := nfz)
  rw [← hW6] at hcd
  have hz5 := HB5.out.size
  obtain ⟨V4, hV4⟩ : ∃ V4, V4 = W6.setCell ⟨w1.heap.size, 34, none⟩ (.slice (some ⟨W5.heap.size, 0, none⟩) 2 ncap) := ⟨_, rfl⟩
  obtain ⟨HR, hbn⟩ := HR5.round2 (o := 34) HB5.out hz5 (by omega) hncp hnrow (hW6 ▸ hV4)
  have HB := Lib.hid hbn
  have hcc := hcd.cell (i := 34) (by omega) (by simp)
  have hcf := hcd.thaw 34
  clear hbn hnrun hW5 hW6 hcd hncp hnrow
  go_wp2_with fail
  rw [← hV4]
  clear hV4 hcc hcf HR5 HB5 g0 g1 g2 g3 g4 g5 g6 g7 hsl hns hlr hrf hb9 hc9 hcell4 hfree4 hsz0 hne4 hz5
  rw [rounds_succ]
  go_wp2_with fail
  go_ret
  exact ⟨w1.heap.size, rfl, HR, HB.out⟩
end Go.Proofs.YtnddcicadmbmkaaGreatDoor
