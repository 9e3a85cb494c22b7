/- The replacer's Replace: plain part. -/
import Derived.Test.YtnddcicadmbmkaaGreatDoorB5
import Derived.Test.YtnddcicadmbmkaaGreatDoorShelf
namespace Go.Proofs.YtnddcicadmbmkaaGreatDoor
open Go.RowKit

def escB (c : UInt8) : List UInt8 := (escE c.toNat).getD [c]
def escL (l : List UInt8) : List UInt8 := l.flatMap escB
/-- how long the first k bytes become -/
def escN (l : List UInt8) (k : Nat) : Nat := (escL (l.take k)).length

theorem escE_len {i : Nat} {r : List UInt8} (h : escE i = some r) : r.length = 2 := by
  unfold escE at h
  repeat' split at h
  all_goals first | (cases h; rfl) | cases h
theorem escB_some {c : UInt8} {r : List UInt8} (h : escE c.toNat = some r) : escB c = r := by unfold escB; rw [h]; rfl
theorem escB_none {c : UInt8} (h : escE c.toNat = none) : escB c = [c] := by unfold escB; rw [h]; rfl
theorem take_succ {l : List UInt8} {k : Nat} (h : k < l.length) : l.take (k + 1) = l.take k ++ [l[k]] := by
  rw [List.take_add_one, List.getElem?_eq_getElem h]; rfl
theorem escL_succ {l : List UInt8} {k : Nat} (h : k < l.length) : escL (l.take (k + 1)) = escL (l.take k) ++ escB l[k] := by
  unfold escL; rw [take_succ h, List.flatMap_append]; simp
theorem escN_succ {l : List UInt8} {k : Nat} (h : k < l.length) : escN l (k + 1) = escN l k + (escB l[k]).length := by
  unfold escN; rw [escL_succ h, List.length_append]
theorem escN_zero (l : List UInt8) : escN l 0 = 0 := by simp [escN, escL]
theorem escB_len (c : UInt8) : 1 ≤ (escB c).length ∧ (escB c).length ≤ 2 := by
  cases h : escE c.toNat with
  | none => rw [escB_none h]; simp
  | some r => rw [escB_some h, escE_len h]; omega
theorem escN_bd (l : List UInt8) : ∀ k, k ≤ l.length → k ≤ escN l k ∧ escN l k ≤ 2 * k
  | 0, _ => by rw [escN_zero]; omega
  | k + 1, h => by
    have h1 := escN_bd l k (by omega)
    rw [escN_succ (by omega)]
    have h2 := escB_len l[k]
    omega
theorem escL_all (l : List UInt8) : escL l = escL (l.take l.length) := by rw [List.take_length]
theorem escN_all (l : List UInt8) : escN l l.length = (escL l).length := by unfold escN; rw [List.take_length]
/-- where nothing grows nothing turns -/
theorem escL_same : ∀ (l : List UInt8), (escL l).length = l.length → escL l = l
  | [], _ => rfl
  | c :: r, h => by
    have e : escL (c :: r) = escB c ++ escL r := by simp [escL]
    rw [e] at h ⊢
    rw [List.length_append] at h
    have h1 := escB_len c
    have h2 := escN_bd r r.length (Nat.le_refl _)
    rw [escN_all] at h2
    simp only [List.length_cons] at h
    have h3 : (escL r).length = r.length := by omega
    rw [escL_same r h3]
    cases hc : escE c.toNat with
    | none => rw [escB_none hc]; rfl
    | some q =>
      rw [escB_some hc, escE_len hc] at h
      omega
theorem esc_count : ∀ (l : List UInt8), (escL l).length = l.length + (l.count 9 + l.count 10 + l.count 92 + l.count 34)
  | [] => by simp [escL]
  | c :: r => by
    have e : escL (c :: r) = escB c ++ escL r := by simp [escL]
    have h := esc_count r
    rw [e, List.length_append]
    have hn : ∀ d : UInt8, c ≠ d → c.toNat ≠ d.toNat := fun d hd hh => hd (UInt8.toNat_inj.1 hh)
    simp only [List.count_cons, List.length_cons]
    by_cases h34 : c = 34
    · subst h34
      have : (escB 34).length = 2 := rfl
      simp; omega
    by_cases h92 : c = 92
    · subst h92
      have : (escB 92).length = 2 := rfl
      simp; omega
    by_cases h10 : c = 10
    · subst h10
      have : (escB 10).length = 2 := rfl
      simp; omega
    by_cases h9 : c = 9
    · subst h9
      have : (escB 9).length = 2 := rfl
      simp; omega
    have h0 : escE c.toNat = none := by
      have n34 : c.toNat ≠ 34 := hn 34 h34
      have n92 : c.toNat ≠ 92 := hn 92 h92
      have n10 : c.toNat ≠ 10 := hn 10 h10
      have n9 : c.toNat ≠ 9 := hn 9 h9
      unfold escE
      rw [if_neg n34, if_neg n92, if_neg n10, if_neg n9]
    rw [escB_none h0]
    simp [h34, h92, h10, h9]
    omega
theorem escN_mono (l : List UInt8) {k : Nat} : ∀ d, k + d ≤ l.length → escN l k ≤ escN l (k + d)
  | 0, _ => Nat.le_refl _
  | d + 1, h => by
    have h1 := escN_mono l d (k := k) (by omega)
    rw [← Nat.add_assoc, escN_succ (by omega)]
    omega
theorem escN_le {l : List UInt8} {k : Nat} (h : k ≤ l.length) : escN l k ≤ (escL l).length := by
  have := escN_mono l (k := k) (l.length - k) (by omega)
  rw [show k + (l.length - k) = l.length by omega, escN_all] at this
  exact this
theorem RIn.at {B : Nat} {w : World} {r i : Nat} {es : Nat → Option (List UInt8)} {ts : List ByteArray} (h : RIn B w r es ts) (hi : i < 256) : ∃ v, w.cell? ⟨r, i, none⟩ = some v ∧ Ent B w r v (es i) := by
  obtain ⟨_, cells, sl, h1, _, _, _, _, h6⟩ := h
  obtain ⟨v, g1, g2⟩ := h6 i hi
  exact ⟨v, by simp [World.cell?, h1, g1], g2⟩
def bytesV (l : List UInt8) : List Value := l.map fun b => Value.int .u8 (b.toNat : Int)
theorem RIn.none_at {B : Nat} {w : World} {r : Nat} {c : UInt8} {ts : List ByteArray} (h : RIn B w r escE ts) (he : escE c.toNat = none) : w.cell? ⟨r, c.toNat, none⟩ = some (.slice none 0 0) := h.cell (UInt8.toNat_lt c) he
theorem RIn.some_at {B : Nat} {w : World} {r : Nat} {c : UInt8} {ts : List ByteArray} {q : List UInt8} (h : RIn B w r escE ts) (he : escE c.toNat = some q) : ∃ g cap, w.cell? ⟨r, c.toNat, none⟩ = some (.slice (some ⟨g, 0, none⟩) 2 cap) ∧ 2 ≤ cap ∧ g < w.heap.size ∧ ∀ j v, (bytesV q)[j]? = some v → w.cell? ⟨g, j, none⟩ = some v := by
  obtain ⟨v, h1, h2⟩ := h.at (UInt8.toNat_lt c)
  rw [he] at h2
  unfold Ent at h2
  obtain ⟨g, cap, cs, fz, rfl, h3, _, _, h4, h5⟩ := h2
  have hq := escE_len he
  rw [hq] at h1 h3
  refine ⟨g, cap, h1, h3, heap_lt h4, fun j v hv => ?_⟩
  unfold bytesV at hv
  rw [List.getElem?_map] at hv
  cases hj : q[j]? with
  | none => rw [hj] at hv; simp at hv
  | some u =>
    rw [hj] at hv
    simp at hv
    rw [← hv]
    simp [World.cell?, h4, h5 j u hj]
theorem RIn.text_at {B : Nat} {w : World} {r : Nat} (h : RIn B w r escE escT) : ∃ g cap, w.cell? ⟨r, 256, none⟩ = some (.slice (some ⟨g, 0, none⟩) 4 cap) ∧ 4 ≤ cap ∧ w.cell? ⟨g, 0, none⟩ = some (.string ⟨#[9]⟩) ∧ w.cell? ⟨g, 1, none⟩ = some (.string ⟨#[10]⟩) ∧ w.cell? ⟨g, 2, none⟩ = some (.string ⟨#[92]⟩) ∧ w.cell? ⟨g, 3, none⟩ = some (.string ⟨#[34]⟩) := by
  obtain ⟨sl, h1, h2, _⟩ := h.texts
  rcases h2.2 with ⟨_, h3⟩ | ⟨g, cap, cur, rfl, _, h4, h5, _⟩
  · exact absurd h3 (by decide)
  · refine ⟨g, cap, h1, h5, ?_⟩
    have hc := fun j (hj : j < 4) => h2.cellAt j hj
    exact ⟨hc 0 (by omega), hc 1 (by omega), hc 2 (by omega), hc 3 (by omega)⟩
end Go.Proofs.YtnddcicadmbmkaaGreatDoor
