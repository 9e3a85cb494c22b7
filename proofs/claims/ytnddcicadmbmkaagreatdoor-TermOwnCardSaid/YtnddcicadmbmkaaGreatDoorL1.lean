/- The document's own symbol table, at the head of its store: the contracts of its functions (turned out of chapter 02's). -/
import Derived.Test.YtnddcicadmbmkaaGreatDoorS2
import Derived.Test.YtnddcicadmbmkaaGreatDoorW1
namespace Go.Proofs.YtnddcicadmbmkaaGreatDoor.Sy
open Go.RowKit Go.Maps

/-- the first cell of block b is the document's table with the texts L -/
structure RTab (w : World) (b : Nat) (L : List ByteArray) (rb : Option Nat) (sv : Value) : Prop where
  c0 : w.cell? ⟨b, 0, none⟩ = some sv
  f0 : w.frozen? ⟨b, 0, none⟩ = false
  blt : b < w.heap.size
  row : w.ownsRow (b + 1) 9 1 sv L.length (L.map Value.string)
  blk : sv.ownBlock = rb
  len : L.length ≤ 16384

def RFoot (b : Nat) (rb : Option Nat) (k : Nat) : Prop := k = b ∨ rb = some k

theorem RTab.at {w : World} {b : Nat} {L : List ByteArray} {rb : Option Nat} {sv : Value} (h : RTab w b L rb sv) {k : Nat} (hk : k < L.length) :
    ∃ g cap, sv = .slice (some ⟨g, 0, none⟩) L.length cap ∧ w.cell? ⟨g, k, none⟩ = some (.string (nth L k)) := by
  rcases h.row.2 with ⟨_, h2⟩ | ⟨g, cap, cur, h1, _⟩
  · omega
  · refine ⟨g, cap, h1, ?_⟩
    have := h.row.cells (g := g) (by rw [h1]; rfl) k (.string (nth L k)) (by simp [nth, hk])
    rwa [show (⟨g, 0, none⟩ : Addr).add k = ⟨g, k, none⟩ from by unfold Addr.add; split <;> simp_all] at this

theorem str_ne {a b : ByteArray} (h : a ≠ b) : (a.toList == b.toList) = false := by
  rw [beq_eq_false_iff_ne]
  intro e
  rw [ByteArray.toList_eq, ByteArray.toList_eq] at e
  exact h (by cases a; cases b; simp_all)

theorem rput_cell {w w2 : World} {m : Nat} {o : Obj} {row : Option Nat} {v : Value} (hms : m < w.heap.size) (c0 : w.cell? ⟨m, 0, none⟩ = some v) (hg2 : (w.alloc o).grownBy w2 row) (hob : row = none ∨ row ≠ some m) : w2.cell? ⟨m, 0, none⟩ = some v := by
  refine (World.cell?_of_block (a := ⟨m, 0, none⟩) (hg2.block m (by simp; omega) ?_)).trans ((World.cell?_of_block (Below.heap_alloc w o _ hms)).trans c0)
  rcases hob with h | h
  · rw [h]; simp
  · exact fun e => h e.symm
theorem rput_free {w w2 : World} {m : Nat} {o : Obj} {row : Option Nat} (hms : m < w.heap.size) (c0 : w.frozen? ⟨m, 0, none⟩ = false) (hg2 : (w.alloc o).grownBy w2 row) (hob : row = none ∨ row ≠ some m) : w2.frozen? ⟨m, 0, none⟩ = false := by
  refine (World.frozen?_of_block (a := ⟨m, 0, none⟩) (hg2.block m (by simp; omega) ?_)).trans ((frozen_alloc w o hms).trans c0)
  rcases hob with h | h
  · rw [h]; simp
  · exact fun e => h e.symm

theorem idx_found {L : List ByteArray} {s : ByteArray} {k : Nat} (hk : k < L.length) (hlo : ∀ j, j < k → nth L j ≠ s) (hat : nth L k = s) : idx L s = k ∧ s ∈ L := by
  induction L generalizing k with
  | nil => simp at hk
  | cons x r ih =>
    cases k with
    | zero =>
      have : x = s := by simpa [nth] using hat
      exact ⟨by simp [idx, this], by simp [this]⟩
    | succ k =>
      have hx : x ≠ s := by simpa [nth] using hlo 0 (by omega)
      obtain ⟨h1, h2⟩ := ih (k := k) (by simpa using hk) (fun j hj => by simpa [nth] using hlo (j + 1) (by omega)) (by simpa [nth] using hat)
      exact ⟨by simp [idx, hx, h1], by simp [h2]⟩

theorem idx_none {L : List ByteArray} {s : ByteArray} (hlo : ∀ j, j < L.length → nth L j ≠ s) : s ∉ L := by
  intro h
  obtain ⟨j, hj, e⟩ := List.getElem_of_mem h
  exact hlo j hj (by simp [nth, hj, e])

set_option maxRecDepth 100000 in
set_option maxHeartbeats 400000 in
theorem rget_any (b : Nat) (L : List ByteArray) (rb : Option Nat) (sv : Value) (s : ByteArray) (w : World) (h : RTab w b L rb sv) :
    Calls Tryz.prog 46 #[.pointer (some ⟨b, 0, none⟩), .string s] w fun e w' => e = .returned (.tuple #[.int .i64 (num L s), .bool (hasB L s)]) ∧ w = w' := by
  have c0 := h.c0
  have hlen := h.len
  obtain ⟨cap, a, rfl⟩ := row_slice h.row
  have HT := Lib.hid h
  clear h
  go_enter Tryz.func46, Tryz.ntmps46
  go_wp2
  go_loop [6] (fun i => ∃ k : Nat, k ≤ L.length ∧ i = .int .i64 k ∧ ∀ j, j < k → nth L j ≠ s) (fun i => L.length - (intOf i).toNat)
  case atStart => exact ⟨0, Nat.zero_le _, rfl, fun j hj => by omega⟩
  case round =>
    obtain ⟨k, hk, rfl, hlo⟩ := hrel
    have HL := Lib.hid hlo
    clear hlo
    by_cases hlt : k < L.length
    · obtain ⟨g, cap', hsv, hc⟩ := HT.out.at hlt
      cases hsv
      by_cases he : nth L k = s
      · have HF := Lib.hid (idx_found hlt HL.out he)
        have hb : ((nth L k).toList == s.toList) = true := by rw [he]; simp
        clear he
        go_wp2
        go_ret2
        exact ⟨by rw [num_yes HF.out.2, HF.out.1, hasB_iff.2 HF.out.2]; rfl, rfl⟩
      · have hb : ((nth L k).toList == s.toList) = false := str_ne he
        have HE := Lib.hid he
        clear he
        go_wp2
        go_round
        case rel => exact ⟨k + 1, by omega, by go_num, fun j hj => if e : j = k then e ▸ HE.out else HL.out j (by omega)⟩
        case measure => simp [intOf]; omega
    · obtain rfl : k = L.length := by omega
      have HN := Lib.hid (idx_none HL.out)
      go_wp2
      go_ret2
      exact ⟨by rw [num_no HN.out, hasB_no.2 HN.out]; rfl, rfl⟩

set_option maxHeartbeats 400000 in
theorem rtext_any (b : Nat) (L : List ByteArray) (rb : Option Nat) (sv : Value) (i : Int) (w : World) (h : RTab w b L rb sv) :
    Calls Tryz.prog 44 #[.pointer (some ⟨b, 0, none⟩), .int .i64 i] w fun e w' => e = .returned (.tuple #[.string (txt L i), .bool (isTxt L i)]) ∧ w = w' := by
  have c0 := h.c0
  by_cases h0 : i < 0
  · have e1 : txt L i = ⟨#[]⟩ := by unfold txt; rw [if_neg (by omega)]
    have e2 : isTxt L i = false := by unfold isTxt; simp; omega
    rw [e1, e2]
    clear e1 e2
    go_enter Tryz.func44, Tryz.ntmps44
    go_wp2_with fail
    go_ret2
    exact ⟨rfl, rfl⟩
  · obtain ⟨k, rfl⟩ := Int.eq_ofNat_of_zero_le (Int.not_lt.1 h0)
    have hl := h.len
    by_cases h1 : k < L.length
    · have e1 := Lib.hid (show txt L k = nth L k from by unfold txt; rw [if_pos (by omega)]; rfl)
      have e2 := Lib.hid (show isTxt L k = true from by unfold isTxt; simp; omega)
      obtain ⟨g, cap, hsv, hc⟩ := h.at h1
      have hT := Lib.hid h; clear h
      subst hsv
      go_enter Tryz.func44, Tryz.ntmps44
      go_wp2_with fail
      go_ret2
      rw [e1.out, e2.out]
      exact ⟨rfl, rfl⟩
    · have e1 := Lib.hid (show txt L k = ⟨#[]⟩ from by unfold txt; rw [if_neg (by omega)])
      have e2 := Lib.hid (show isTxt L k = false from by unfold isTxt; simp; omega)
      obtain ⟨cap, a, rfl⟩ := row_slice h.row
      have hT := Lib.hid h; clear h
      go_enter Tryz.func44, Tryz.ntmps44
      go_wp2_with fail
      go_ret2
      rw [e1.out, e2.out]
      exact ⟨rfl, rfl⟩

def RPutPost (m : Nat) (L : List ByteArray) (rb : Option Nat) (sv : Value) (s : ByteArray) (w : World) (e : Ending) (w' : World) : Prop :=
  e = .returned (.tuple #[.int .i64 (pN L s), .int .i64 (pE L s)]) ∧ ∃ rb' sv', RTab w' m (pL L s) rb' sv' ∧ (rb' = rb ∨ ∃ g, rb' = some g ∧ w.heap.size ≤ g) ∧ Fr (RFoot m rb) w w' ∧ ∀ x t, w.heap[m]? = some (.cells #[sv, x] t (0, 0)) → w'.heap[m]? = some (.cells #[sv', x] t (0, 0))

theorem rput_tab {w w2 : World} {m cap : Nat} {L : List ByteArray} {a : Option Addr} {rb : Option Nat} {s : ByteArray} {v' : Value} (h : RTab w m L rb (.slice a L.length cap)) (hin : s ∉ L) (hfull : ¬ 16384 ≤ L.length)
    (hown2 : w2.ownsRow (m + 1) 9 1 v' (L.length + 1) (L.map Value.string ++ [.string s]))
    (hg2 : (w.alloc (.cells #[.string s] 9)).grownBy w2 (Value.slice a L.length cap).ownBlock) (hat : v'.ownBlock = (Value.slice a L.length cap).ownBlock ∨ v'.ownBlock = some (w.heap.size + 1)) :
    ∃ rb' sv', RTab (w2.setCell ⟨m, 0, none⟩ v') m (pL L s) rb' sv' ∧ (rb' = rb ∨ ∃ g, rb' = some g ∧ w.heap.size ≤ g) ∧ Fr (RFoot m rb) w (w2.setCell ⟨m, 0, none⟩ v') ∧ ∀ x t, w.heap[m]? = some (.cells #[.slice a L.length cap, x] t (0, 0)) → (w2.setCell ⟨m, 0, none⟩ v').heap[m]? = some (.cells #[sv', x] t (0, 0)) := by
  obtain ⟨k1, k2⟩ := own_apart hown2
  have hs2 := hg2.size
  simp at hs2
  have hms := h.blt
  have hrb : ∀ k, Value.ownBlock (.slice a L.length cap) = some k → m + 1 ≤ k := fun k hk => (h.row.lt k hk).1
  have g2 : w2.heap[m]? = w.heap[m]? := by
    rw [hg2.block m (by simp; omega) (fun e => by have := hrb m e.symm; omega), Below.heap_alloc _ _ _ hms]
  have hF : Fr (RFoot m rb) w (w2.setCell ⟨m, 0, none⟩ v') := by
    refine ((Fr.of_alloc _ _ _).trans (Fr.of_grown hg2 ?_)).trans (Fr.of_setCell _ (.inl rfl) _)
    intro k hk; exact .inr (h.blk ▸ hk)
  refine ⟨v'.ownBlock, v', ⟨?_, ?_, ?_, ?_, rfl, ?_⟩, ?_, hF, ?_⟩
  · have : w2.cell? ⟨m, 0, none⟩ = some (.slice a L.length cap) := (World.cell?_of_block (a := ⟨m, 0, none⟩) g2).trans h.c0
    exact World.cell?_setCell_same _ _ _ this
  · have := (World.frozen?_of_block (a := ⟨m, 0, none⟩) g2).trans h.f0
    simpa using this
  · simp [World.setCell]; omega
  · rw [pL, hasB_no.2 hin, if_neg (by simp), if_neg hfull]
    have := ownsRow_setCell_other hown2 (a := ⟨m, 0, none⟩) (fun e => by have h3 : m + 1 ≤ m := k1 _ e; omega) v'
    simpa using this
  · rw [pL, hasB_no.2 hin, if_neg (by simp), if_neg hfull]
    simp; omega
  · rcases hat with e | e
    · exact .inl (e.trans h.blk)
    · exact .inr ⟨_, e, by omega⟩
  · intro x t hx
    rw [set_block (g2.trans hx)]
    rfl

set_option maxRecDepth 100000 in
set_option maxHeartbeats 400000 in
theorem rput_any (m : Nat) (L : List ByteArray) (rb : Option Nat) (sv : Value) (s : ByteArray) (w : World) (h : RTab w m L rb sv) :
    Calls Tryz.prog 62 #[.pointer (some ⟨m, 0, none⟩), .string s] w (RPutPost m L rb sv s w) := by
  have c0 := h.c0
  have f0 := h.f0
  obtain ⟨i0, hi, hz0, hz1, hz2⟩ := info_parts Tryz.info9
  have hlen := h.len
  obtain ⟨cap, a, rfl⟩ := row_slice h.row
  by_cases hin : s ∈ L
  · have HB : hasB L s = true := hasB_iff.2 hin
    have HT := Lib.hid h
    clear h
    go_enter Tryz.func62, Tryz.ntmps62
    go_wp2_with (go_at_call 46; refine (rget_any m L rb _ _ _ HT.out).mono ?_; rintro e w' ⟨rfl, rfl⟩)
    go_ret2
    exact ⟨by rw [pN, pE, HB, num_yes hin]; rfl, rb, _, by rw [pL, HB]; exact HT.out, .inl rfl, Fr.refl _ _, fun x t hx => hx⟩
  · have HB : hasB L s = false := hasB_no.2 hin
    by_cases hfull : 16384 ≤ L.length
    · have HT := Lib.hid h
      clear h
      go_enter Tryz.func62, Tryz.ntmps62
      go_wp2_with (go_at_call 46; refine (rget_any m L rb _ _ _ HT.out).mono ?_; rintro e w' ⟨rfl, rfl⟩)
      go_ret2
      exact ⟨by rw [pN, pE, HB, if_neg (by simp), if_pos hfull, if_neg (by simp), if_pos hfull]; rfl, rb, _, by rw [pL, HB, if_neg (by simp), if_pos hfull]; exact HT.out, .inl rfl, Fr.refl _ _, fun x t hx => hx⟩
    · have hrow := h.row
      have hrb : ∀ k, Value.ownBlock (.slice a L.length cap) = some k → m + 1 ≤ k := fun k hk => (hrow.lt k hk).1
      have hob := own_ne (k := m) hrb (by omega)
      have hms := h.blt
      have HT := Lib.hid h
      clear h
      go_enter Tryz.func62, Tryz.ntmps62
      go_wp2_with (first
        | (go_at_call 46; refine (rget_any m L rb _ _ _ HT.out).mono ?_; rintro e w' ⟨rfl, rfl⟩)
        | (at_builtin; refine wpList_append_own_at _ rfl _ _ 33 rfl (m + 1) 9 i0 (.string ⟨#[]⟩) 1 16 Tryz.underlying33 hi hz0 hz1 hz2 rfl (by decide) (.slice a L.length cap) L.length (L.map Value.string) rfl (hrow.alloc _) ⟨w.heap.size, 0, none⟩ 1 1 [.string s] rfl rfl (cell_one_new _ _ _) (by simp [Value.oneCell']) (by unfold maxLen; omega) (by omega) (by simp; omega) ?_; intro v' w2 hown2 hgrow2 _ hat2; have c02 := rput_cell hms c0 hgrow2 hob; have f02 := rput_free hms f0 hgrow2 hob; obtain ⟨cap2, a2, rfl⟩ := row_slice hown2))
      go_ret2
      exact ⟨by rw [pN, pE, HB, if_neg (by simp), if_neg hfull, if_neg (by simp), if_neg hfull]; simp, rput_tab HT.out hin hfull hown2 hgrow2 (by simpa using hat2)⟩
end Go.Proofs.YtnddcicadmbmkaaGreatDoor.Sy
