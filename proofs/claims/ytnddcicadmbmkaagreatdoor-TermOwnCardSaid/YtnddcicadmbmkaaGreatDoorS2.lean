/- The symbol table of package sym: the contracts of New, Less and Put. -/
import Derived.Test.YtnddcicadmbmkaaGreatDoorS1
import Derived.Maps.AppendAt
import Derived.WalkSpells
namespace Go.Proofs.YtnddcicadmbmkaaGreatDoor.Sy
open Go.RowKit Go.Maps

/-- w' is w with new blocks, and writes to the blocks of S alone. -/
structure Fr (S : Nat → Prop) (w w' : World) : Prop where
  os : w'.os = w.os
  tape : w'.tape = w.tape
  output : w'.output = w.output
  size : w.heap.size ≤ w'.heap.size
  block : ∀ k, k < w.heap.size → ¬ S k → w'.heap[k]? = w.heap[k]?

theorem Fr.refl (S : Nat → Prop) (w : World) : Fr S w w := ⟨rfl, rfl, rfl, Nat.le_refl _, fun _ _ _ => rfl⟩
theorem Fr.trans {S : Nat → Prop} {a b c : World} (h : Fr S a b) (k : Fr S b c) : Fr S a c :=
  ⟨k.os.trans h.os, k.tape.trans h.tape, k.output.trans h.output, Nat.le_trans h.size k.size, fun i hi hs => (k.block i (Nat.lt_of_lt_of_le hi h.size) hs).trans (h.block i hi hs)⟩
theorem Fr.mono {S T : Nat → Prop} {a b : World} (h : Fr S a b) (hs : ∀ k, k < a.heap.size → S k → T k) : Fr T a b := ⟨h.os, h.tape, h.output, h.size, fun i hi ht => h.block i hi (fun e => ht (hs i hi e))⟩
theorem Fr.of_grown {S : Nat → Prop} {a b : World} {row : Option Nat} (h : a.grownBy b row) (hr : ∀ k, row = some k → S k) : Fr S a b :=
  ⟨h.os, h.tape, h.output, h.size, fun i hi hs => h.block i hi (fun e => hs (hr i e.symm))⟩
theorem Fr.of_alloc (S : Nat → Prop) (a : World) (o : Obj) : Fr S a (a.alloc o) := Fr.of_grown (World.grownBy_alloc a o none) (by simp)
theorem Fr.of_setCell {S : Nat → Prop} (a : World) {p : Addr} (hp : S p.block) (u : Value) : Fr S a (a.setCell p u) :=
  ⟨rfl, rfl, rfl, by simp [World.setCell], fun k _ hs => Below.heap_setCell _ _ _ _ (fun e => hs (e ▸ hp))⟩
theorem Fr.of_below {S : Nat → Prop} {a b : World} (h : Below a.heap.size a b) : Fr S a b := ⟨h.os, h.tape, h.output, h.size, fun i hi _ => h.block i hi⟩
theorem Fr.below {S : Nat → Prop} {a b : World} (h : Fr S a b) {B : Nat} (hB : B ≤ a.heap.size) (hs : ∀ k, S k → B ≤ k) : Below B a b :=
  ⟨h.os, h.tape, h.output, h.size, fun i hi => h.block i (Nat.lt_of_lt_of_le hi hB) (fun e => by have := hs i e; omega)⟩

/-- The table's blocks. -/
def Foot (m : Nat) (rb : Option Nat) (k : Nat) : Prop := k = m ∨ k = m + 1 ∨ rb = some k

/-- A table stays what it is while other blocks are written. -/
theorem Tab.kept {S : Nat → Prop} {w w' : World} {m : Nat} {L : List ByteArray} {rb : Option Nat} {sv : Value} {D : DataW Unit} {n : Nat} (h : Tab w m L rb sv D n) (hf : Fr S w w') (hs : ∀ k, Foot m rb k → ¬ S k) : Tab w' m L rb sv D n := by
  have hb : ∀ k, k < w.heap.size → Foot m rb k → w'.heap[k]? = w.heap[k]? := fun k hk hF => hf.block k hk (hs k hF)
  refine ⟨?_, ?_, h.few, h.is, ?_, h.blk, h.len, h.nodup, h.wide⟩
  · rw [hb (m + 1) (lt_of_block h.cells) (.inr (.inl rfl))]; exact h.cells
  · obtain ⟨es, clock, h1, r⟩ := h.map
    exact ⟨es, clock, by rw [hb m (lt_of_block h1) (.inl rfl)]; exact h1, r⟩
  · refine ⟨h.row.1, ?_⟩
    rcases h.row.2 with h2 | ⟨g, cap, cur, h1, h2, h3, r⟩
    · exact .inl h2
    · refine .inr ⟨g, cap, cur, h1, h2, ?_, r⟩
      rw [hb g (lt_of_block h3) (.inr (.inr (by rw [← h.blk, h1]; rfl)))]; exact h3

theorem mapIs_nil : MapIs (.map []) [] := ⟨isMap_empty, fun s => ⟨by simp [Maps.has, hasB], by simp [DataW.atKey, num, hasB]⟩⟩

theorem ky_inj {s t : ByteArray} (h : ky s = ky t) : s = t := by
  unfold ky at h
  have : s.data.toList = t.data.toList := by simpa using h
  cases s; cases t; simp_all

theorem ky_isKey (s : ByteArray) : WideAt.IsKeyLit (ky s) := by
  unfold ky; exact trivial

theorem idx_snoc_old {L : List ByteArray} {s t : ByteArray} (h : t ∈ L) : idx (L ++ [s]) t = idx L t := by
  induction L with
  | nil => simp at h
  | cons x r ih =>
    show (if x = t then 0 else idx (r ++ [s]) t + 1) = (if x = t then 0 else idx r t + 1)
    by_cases e : x = t
    · rw [if_pos e, if_pos e]
    · rw [if_neg e, if_neg e, ih (by simpa [Ne.symm e] using h)]

theorem idx_snoc_new {L : List ByteArray} {s : ByteArray} (h : s ∉ L) : idx (L ++ [s]) s = L.length := by
  induction L with
  | nil => simp [idx]
  | cons x r ih =>
    show (if x = s then 0 else idx (r ++ [s]) s + 1) = r.length + 1
    simp at h
    rw [if_neg (Ne.symm h.1), ih h.2]

theorem num_snoc_old {L : List ByteArray} {s t : ByteArray} (h : t ≠ s) : num (L ++ [s]) t = num L t := by
  by_cases h1 : t ∈ L
  · rw [num_yes h1, num_yes (by simp [h1]), idx_snoc_old h1]
  · rw [num_no h1, num_no (by simp [h1, h])]

theorem num_snoc_new {L : List ByteArray} {s : ByteArray} (h : s ∉ L) : num (L ++ [s]) s = L.length := by
  rw [num_yes (by simp), idx_snoc_new h]

theorem MapIs.put {D : DataW Unit} {L : List ByteArray} (h : MapIs D L) {s : ByteArray} (hs : s ∉ L) : MapIs (D.put (ky s) (.lit (.int .i64 L.length))) (L ++ [s]) := by
  refine ⟨h.1.put _ _, fun t => ?_⟩
  by_cases e : t = s
  · subst e
    refine ⟨?_, ?_⟩
    · rw [has_put_same h.1 (ky_isKey t), hasB_iff.2 (by simp)]
    · rw [atKey_put_same h.1 (ky_isKey t), num_snoc_new hs]
  · have hne : ky t ≠ ky s := fun h => e (ky_inj h)
    refine ⟨?_, ?_⟩
    · rw [has_put_other hne, (h.2 t).1, Bool.eq_iff_iff, hasB_iff, hasB_iff]; simp [e]
    · rw [atKey_put_other hne, (h.2 t).2, num_snoc_old e]

set_option maxHeartbeats 400000 in
theorem new_any (w : World) : Calls Tryz.prog 40 #[] w fun e w' => e = .returned (.pointer (some ⟨w.heap.size + 1, 0, none⟩)) ∧ Tab w' w.heap.size [] none (.slice none 0 0) (.map []) 0 ∧ Below w.heap.size w w' ∧ w'.heap.size = w.heap.size + 2 := by
  have hmm := @run_makeMap Tryz.prog
  go_enter Tryz.func40, Tryz.ntmps40
  go_wp2
  go_ret
  refine ⟨rfl, ⟨?_, ?_, Nat.le_refl _, mapIs_nil, World.ownsRow_nil _ _ _ _, rfl, by simp, by simp, by simp⟩, ((Below.refl _ _).alloc (Nat.le_refl _) _).alloc (by simp) _, by simp⟩
  · have := heap_alloc_new (w.alloc (.map #[] 0)) (.cells #[.slice none 0 0, .map (some w.heap.size)] 95)
    simpa using this
  · exact (World.ownsMap_made _ _ _ _).alloc _

/-- what Put makes of a list -/
def pL (L : List ByteArray) (s : ByteArray) : List ByteArray := if hasB L s then L else if 16384 ≤ L.length then L else L ++ [s]
/-- the number that it answers -/
def pN (L : List ByteArray) (s : ByteArray) : Nat := if hasB L s then idx L s else if 16384 ≤ L.length then 0 else L.length
/-- its error -/
def pE (L : List ByteArray) (s : ByteArray) : Nat := if hasB L s then 0 else if 16384 ≤ L.length then 18 else 0

theorem Tryz.info9 : (Tryz.prog.info? 9).map (fun i => (i.zero, i.size, i.bytes)) = some (some (.string ⟨#[]⟩), 1, 16) := by kernel_rfl

def PutPost (m : Nat) (L : List ByteArray) (rb : Option Nat) (s : ByteArray) (w : World) (e : Ending) (w' : World) : Prop :=
  e = .returned (.tuple #[.int .i64 (pN L s), .int .i64 (pE L s)]) ∧ ∃ rb' sv' D' n', Tab w' m (pL L s) rb' sv' D' n' ∧ (rb' = rb ∨ ∃ g, rb' = some g ∧ w.heap.size ≤ g) ∧ Fr (Foot m rb) w w'

theorem own_ne {v : Value} {m k : Nat} (h : ∀ k, v.ownBlock = some k → m ≤ k) (hk : k < m) : v.ownBlock = none ∨ v.ownBlock ≠ some k := by
  by_cases e : v.ownBlock = some k
  · exact absurd (h k e) (by omega)
  · exact .inr e
theorem frozen_alloc (w : World) (o : Obj) {p : Addr} (h : p.block < w.heap.size) : (w.alloc o).frozen? p = w.frozen? p := World.frozen?_of_block (Below.heap_alloc w o _ h)

theorem put_cell {w w1 w2 : World} {m : Nat} {o : Obj} {row : Option Nat} {v : Value} (hms : m + 1 < w.heap.size) (hg1 : w.grownBy w1 (some m)) (c0 : w.cell? ⟨m + 1, 0, none⟩ = some v) (hg2 : (w1.alloc o).grownBy w2 row) (hob : row = none ∨ row ≠ some (m + 1)) :
    w2.cell? ⟨m + 1, 0, none⟩ = some v := by
  have hs := hg1.size
  refine (World.cell?_of_block (a := ⟨m + 1, 0, none⟩) (hg2.block (m + 1) (by simp; omega) ?_)).trans ((World.cell?_of_block (Below.heap_alloc w1 o _ (by show m + 1 < _; omega))).trans ((World.cell?_of_block (a := ⟨m + 1, 0, none⟩) (hg1.block (m + 1) hms (by simp))).trans c0))
  rcases hob with h | h
  · rw [h]; simp
  · exact fun e => h e.symm

theorem put_free {w w1 w2 : World} {m : Nat} {o : Obj} {row : Option Nat} (hms : m + 1 < w.heap.size) (hg1 : w.grownBy w1 (some m)) (f0 : w.frozen? ⟨m + 1, 0, none⟩ = false) (hg2 : (w1.alloc o).grownBy w2 row) (hob : row = none ∨ row ≠ some (m + 1)) :
    w2.frozen? ⟨m + 1, 0, none⟩ = false := by
  have hs := hg1.size
  refine (World.frozen?_of_block (a := ⟨m + 1, 0, none⟩) (hg2.block (m + 1) (by simp; omega) ?_)).trans ((frozen_alloc w1 o (by show m + 1 < _; omega)).trans ((World.frozen?_of_block (a := ⟨m + 1, 0, none⟩) (hg1.block (m + 1) hms (by simp))).trans f0))
  rcases hob with h | h
  · rw [h]; simp
  · exact fun e => h e.symm

theorem row_slice {w : World} {B e : Nat} {n : Nat} {v : Value} {xs : List Value} (h : w.ownsRow B e 1 v n xs) : ∃ cap a, v = .slice a n cap := by
  rcases h.2 with ⟨h1, h2⟩ | ⟨g, cap, cur, h1, _⟩
  · exact ⟨0, none, by rw [h1, h2]⟩
  · exact ⟨cap, _, h1⟩
theorem own_apart {w : World} {B e : Nat} {n : Nat} {v : Value} {xs : List Value} (h : w.ownsRow B e 1 v n xs) : (∀ k, v.ownBlock = some k → B ≤ k) ∧ ∀ k, v.ownBlock = some k → k < w.heap.size := ⟨fun k hk => (h.lt k hk).1, fun k hk => (h.lt k hk).2⟩
theorem cells_set {w : World} {b : Nat} {v u x : Value} {t : TypeId} (h : w.heap[b]? = some (.cells #[v, x] t (0, 0))) : (w.setCell ⟨b, 0, none⟩ u).heap[b]? = some (.cells #[u, x] t (0, 0)) := by
  have hlt := lt_of_block h
  have h' : w.heap[b] = .cells #[v, x] t (0, 0) := by simpa [Array.getElem?_eq_getElem hlt] using h
  show (w.heap.modify b _)[b]? = _
  rw [Array.getElem?_eq_getElem (by simpa using hlt), Array.getElem_modify_self, h']
  rfl

theorem put_tab {w w1 w2 : World} {m n cap : Nat} {L : List ByteArray} {a : Option Addr} {rb : Option Nat} {D D' : DataW Unit} {s : ByteArray} {v' : Value} (h : Tab w m L rb (.slice a L.length cap) D n) (hin : s ∉ L) (hfull : ¬ 16384 ≤ L.length) (hs : s.size ≤ maxLen)
    (hm : MapIs D' (L ++ [s])) (hown1 : w1.ownsMap Tryz.prog 9 (plainElem Tryz.prog 3) m (n + 1) D') (hg1 : w.grownBy w1 (some m)) (hown2 : w2.ownsRow (m + 2) 9 1 v' (L.length + 1) (L.map Value.string ++ [.string s]))
    (hg2 : (w1.alloc (.cells #[.string s] 9)).grownBy w2 (Value.slice a L.length cap).ownBlock) (hat : v'.ownBlock = (Value.slice a L.length cap).ownBlock ∨ v'.ownBlock = some (w1.heap.size + 1)) :
    ∃ rb' sv' D' n', Tab (w2.setCell ⟨m + 1, 0, none⟩ v') m (pL L s) rb' sv' D' n' ∧ (rb' = rb ∨ ∃ g, rb' = some g ∧ w.heap.size ≤ g) ∧ Fr (Foot m rb) w (w2.setCell ⟨m + 1, 0, none⟩ v') := by
  obtain ⟨k1, k2⟩ := own_apart hown2
  have hs1 := hg1.size
  have hs2 := hg2.size
  simp at hs2
  have hms := lt_of_block h.cells
  have hrb : ∀ k, Value.ownBlock (.slice a L.length cap) = some k → m + 2 ≤ k := fun k hk => (h.row.lt k hk).1
  have g2 : ∀ k, k < m + 2 → w2.heap[k]? = w1.heap[k]? := fun k hk => by
    rw [hg2.block k (by simp; omega) (fun e => by have := hrb k e.symm; omega), Below.heap_alloc _ _ _ (by omega : k < w1.heap.size)]
  have gs : ∀ k, k ≠ m + 1 → (w2.setCell ⟨m + 1, 0, none⟩ v').heap[k]? = w2.heap[k]? := fun k hk => Below.heap_setCell _ _ _ _ hk
  have hF : Fr (Foot m rb) w (w2.setCell ⟨m + 1, 0, none⟩ v') := by
    refine (((Fr.of_grown hg1 ?_).trans (Fr.of_alloc _ _ _)).trans (Fr.of_grown hg2 ?_)).trans (Fr.of_setCell _ (.inr (.inl rfl)) _)
    · intro k hk; exact .inl (Option.some.inj hk).symm
    · intro k hk; exact .inr (.inr (h.blk ▸ hk))
  refine ⟨v'.ownBlock, v', D', n + 1, ⟨?_, ?_, ?_, ?_, ?_, rfl, ?_, ?_, ?_⟩, ?_, hF⟩
  all_goals (first | rw [pL, hasB_no.2 hin, if_neg (by simp), if_neg hfull] | skip)
  · rw [cells_set (g2 (m + 1) (by omega) ▸ (hg1.block (m + 1) hms (by simp)).trans h.cells)]
  · obtain ⟨es, clock, h1, r⟩ := hown1
    exact ⟨es, clock, by rw [gs m (by omega), g2 m (by omega)]; exact h1, r⟩
  · have := h.few; simp; exact this
  · exact hm
  · have := ownsRow_setCell_other hown2 (a := ⟨m + 1, 0, none⟩) (fun e => by have h3 : m + 2 ≤ m + 1 := k1 _ e; omega) v'
    simpa using this
  · simp; omega
  · rw [List.nodup_append]
    refine ⟨h.nodup, by simp, ?_⟩
    intro x hx y hy e
    simp at hy
    subst hy e
    exact hin hx
  · intro x hx
    rcases List.mem_append.1 hx with hx | hx
    · exact h.wide x hx
    · simp at hx; subst hx; exact hs
  · rcases hat with e | e
    · exact .inl (e.trans h.blk)
    · exact .inr ⟨_, e, by omega⟩

set_option maxRecDepth 100000 in
set_option maxHeartbeats 400000 in
theorem put_any (m n : Nat) (L : List ByteArray) (rb : Option Nat) (sv : Value) (D : DataW Unit) (s : ByteArray) (w : World) (h : Tab w m L rb sv D n) (hs : s.size ≤ maxLen) :
    Calls Tryz.prog 60 #[.pointer (some ⟨m + 1, 0, none⟩), .string s] w (PutPost m L rb s w) := by
  have c0 := h.c0
  have c1 := h.c1
  have f0 := h.f0
  have hown := h.map
  have hkey : keyOf Tryz.prog 9 (.string s) = some (ky s) := Go.WideMaps.keyOf_string_mk Tryz.underlying9 hs
  obtain ⟨i0, hi, hz0, hz1, hz2⟩ := info_parts Tryz.info9
  obtain ⟨hh, ha⟩ := h.is.2 s
  have qT : ∀ (w : World) (r : Option Nat), (binOp .eql 93 (.map r) (.map none)).run Tryz.prog w = .ok (.bool r.isNone) w := fun w r => run_eql_map_nil w _ _ _ r Tryz.underlying93
  by_cases hin : s ∈ L
  · have hh' : Maps.has D (ky s) = true := by rw [hh]; exact hasB_iff.2 hin
    have HA := Lib.hid ha
    have HT := Lib.hid h
    clear hh ha h
    go_enter Tryz.func60, Tryz.ntmps60
    go_wp2_with (first
      | (at_lookup; refine wpList_lookup_own_ok_int _ rfl _ _ 93 rfl 9 3 .i64 law9 Tryz.underlying93 Tryz.underlying3 (zero3 _) m n D rfl hown _ _ rfl hkey ?_; intro c hat hwc)
      | go_in)
    rw [HA.out] at hat
    cases hat
    go_ret2
    exact ⟨by rw [pN, pE, hasB_iff.2 hin, num_yes hin]; rfl, rb, sv, D, n, by rw [pL, hasB_iff.2 hin]; exact HT.out, .inl rfl, Fr.refl _ _⟩
  · have hh' : Maps.has D (ky s) = false := by rw [hh]; exact hasB_no.2 hin
    obtain ⟨cap, a, rfl⟩ := h.slice
    have hlen := h.len
    by_cases hfull : 16384 ≤ L.length
    · have HT := Lib.hid h
      clear hh ha h
      go_enter Tryz.func60, Tryz.ntmps60
      go_wp2_with (first
        | (at_lookup; refine wpList_lookup_own_ok_int _ rfl _ _ 93 rfl 9 3 .i64 law9 Tryz.underlying93 Tryz.underlying3 (zero3 _) m n D rfl hown _ _ rfl hkey ?_; intro c hat hwc)
        | go_in)
      go_ret2
      exact ⟨by rw [pN, pE, hasB_no.2 hin, if_neg (by simp), if_pos hfull, if_neg (by simp), if_pos hfull]; rfl, rb, _, D, n, by rw [pL, hasB_no.2 hin, if_neg (by simp), if_pos hfull]; exact HT.out, .inl rfl, Fr.refl _ _⟩
    · have hrow := h.row
      have hrb : ∀ k, Value.ownBlock (.slice a L.length cap) = some k → m + 2 ≤ k := fun k hk => (hrow.lt k hk).1
      have hob := own_ne (k := m) hrb (by omega)
      have hob1 := own_ne (k := m + 1) hrb (by omega)
      have hms := lt_of_block h.cells
      have HT := Lib.hid h
      have HM := Lib.hid (MapIs.put h.is hin)
      clear hh ha h
      go_enter Tryz.func60, Tryz.ntmps60
      go_wp2_with (first
        | (at_lookup; refine wpList_lookup_own_ok_int _ rfl _ _ 93 rfl 9 3 .i64 law9 Tryz.underlying93 Tryz.underlying3 (zero3 _) m n D rfl hown _ _ rfl hkey ?_; intro c hat hwc)
        | (at_mapUpdate; refine wpList_mapUpdate_own _ rfl _ _ _ 93 rfl 9 3 law9 Tryz.underlying93 (plainElem (H := Unit) Tryz.prog 3) m n _ rfl hown (by unfold maxLen; have := HT.out.few; omega) _ _ _ rfl rfl hkey _ [] (plainElem_int Tryz.underlying3 (WalkArith.wf_i64 (by omega))) ?_; intro w1 hown1 hgrow1; have c01 := hgrow1.cell c0 (by simp); have f01 := (World.frozen?_of_block (a := ⟨m + 1, 0, none⟩) (hgrow1.block (m + 1) (lt_of_block HT.out.cells) (by simp))).trans f0)
        | (at_builtin; refine wpList_append_own_at _ rfl _ _ 33 rfl (m + 2) 9 i0 (.string ⟨#[]⟩) 1 16 Tryz.underlying33 hi hz0 hz1 hz2 rfl (by decide) (.slice a L.length cap) L.length (L.map Value.string) rfl ((hrow.kept hgrow1 hob).alloc _) ⟨w1.heap.size, 0, none⟩ 1 1 [.string s] rfl rfl (cell_one_new _ _ _) (by simp [Value.oneCell']) (by unfold maxLen; omega) (by omega) (by have := hgrow1.size; simp; omega) ?_; intro v' w2 hown2 hgrow2 _ hat2; have c02 := put_cell hms hgrow1 c0 hgrow2 hob1; obtain ⟨cap2, a2, rfl⟩ := row_slice hown2; have f02 := put_free hms hgrow1 f0 hgrow2 hob1)
        | go_in)
      go_ret2
      exact ⟨by rw [pN, pE, hasB_no.2 hin, if_neg (by simp), if_neg hfull, if_neg (by simp), if_neg hfull]; rfl, put_tab HT.out hin hfull hs HM.out hown1 hgrow1 hown2 hgrow2 (by simpa using hat2)⟩

end Go.Proofs.YtnddcicadmbmkaaGreatDoor.Sy
